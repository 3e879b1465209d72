/- Valid values, in the program: names by a map, scalars, the whole. -/
import Derived.Test.YtdnhhdplcminlaaGreatDoorAiP1
set_option maxHeartbeats 1000000
set_option maxRecDepth 100000
set_option linter.unusedVariables false
set_option linter.unusedSimpArgs false
set_option linter.unusedSectionVars false
namespace Go.Proofs.YtdnhhdplcminlaaGreatDoor.AI
open Go

theorem find_none (s : Str) : ∀ (seen : List Str) (es : List (AV × AV)) (i : Nat), es.map Prod.fst = seen.map AV.str → seen.contains s = false → findE (.str s) es i = some none
  | [], [], i, _, _ => rfl
  | [], _ :: _, i, h, _ => by simp at h
  | _ :: _, [], i, h, _ => by simp at h
  | x :: seen, (k, v) :: es, i, h, hc => by
    simp only [List.map_cons, List.cons.injEq] at h
    obtain ⟨rfl, h⟩ := h
    rw [List.contains_cons, Bool.or_eq_false_iff] at hc
    simp only [findE, keyEq, hc.1]
    exact find_none s seen es (i + 1) h hc.2
theorem find_some (s : Str) : ∀ (seen : List Str) (es : List (AV × AV)) (i : Nat), es.map Prod.fst = seen.map AV.str → seen.contains s = true → ∃ j v, findE (.str s) es i = some (some (j, v)) ∧ v ∈ es.map Prod.snd
  | [], [], i, _, hc => by simp at hc
  | [], _ :: _, i, h, _ => by simp at h
  | _ :: _, [], i, h, _ => by simp at h
  | x :: seen, (k, v) :: es, i, h, hc => by
    simp only [List.map_cons, List.cons.injEq] at h
    obtain ⟨rfl, h⟩ := h
    rw [List.contains_cons, Bool.or_eq_true] at hc
    cases hx : s == x with
    | true =>
      refine ⟨i, v, ?_, by simp⟩
      simp [findE, keyEq, hx]
    | false =>
      rw [hx] at hc
      obtain ⟨j, u, h1, h2⟩ := find_some s seen es (i + 1) h (hc.resolve_left (by simp))
      refine ⟨j, u, ?_, by simp at h2 ⊢; exact .inr h2⟩
      simp [findE, keyEq, hx, h1]

/-- The map of the names that were seen, over the heap's first place. -/
theorem names_loop (d : List F) (hl : d.length ≤ 536870912) (hs : ∀ f ∈ d, f.name.length ≤ 536870912) (Q : AV → Prop) {k : Nat} (hk : k ≤ d.length) : ∀ es : List (AV × AV), es.map Prod.fst = ((d.take k).map F.name).map AV.str → (∀ v ∈ es.map Prod.snd, ∃ n : Int, v = .int .i64 n) →
    Q (.bool (apartB nameB ((d.take k).map F.name) ((d.drop k).map F.name))) → LP 140 3 [.mapv 0, .sl false d.length (encFs d), .int .i64 (d.length : Int), .int .i64 (k : Int)] [some (.map es)] Q := by
  refine up_to (P := fun k => ∀ es : List (AV × AV), es.map Prod.fst = ((d.take k).map F.name).map AV.str → (∀ v ∈ es.map Prod.snd, ∃ n : Int, v = .int .i64 n) →
    Q (.bool (apartB nameB ((d.take k).map F.name) ((d.drop k).map F.name))) → LP 140 3 [.mapv 0, .sl false d.length (encFs d), .int .i64 (d.length : Int), .int .i64 (k : Int)] [some (.map es)] Q) ?_ ?_ hk
  · intro es h1 h2 hq
    refine labelIs ?_
    rw [l140_3]
    have hlt : decide ((d.length : Int) < (d.length : Int)) = false := by simp
    rw [hlt, cond_false]
    rw [List.drop_length] at hq
    exact hq
  · intro k hk ih es h1 h2 hq
    refine labelIs ?_
    rw [l140_3]
    rw [drop_get hk, List.map_cons, apartB] at hq
    have hlt : decide ((k : Int) < (d.length : Int)) = true := by simpa using hk
    rw [hlt, cond_true, Int.toNat_natCast, wrap_of (by omega)]
    have hu : Tryz.prog.underlying 166 = some (.map 9 3) := by kernel_rfl
    have hu9 : Tryz.prog.underlying 9 = some .string := by kernel_rfl
    have hz : zeroOf Tryz.prog 3 = some (.int .i64 0) := by kernel_rfl
    have hfit : ∀ s : Str, keyFits Tryz.prog 9 (.str s) = true := fun s => by simp [keyFits, hu9]
    have hcall : PCT 167 [.str d[k].name] (.bool (nameB d[k].name)) := pcIs (by kernel_rfl) (by simp) (c167 _ (hs _ (List.getElem_mem hk)))
    refine ⟨by omega, _, _, _, _, _, _, _, _, seg_F (List.getElem?_eq_getElem hk), ?_⟩
    cases hc : ((d.take k).map F.name).contains d[k].name with
    | true =>
      obtain ⟨j, v, hf, hv⟩ := find_some d[k].name _ es 0 h1 hc
      obtain ⟨n, rfl⟩ := h2 v hv
      refine ⟨n, true, ?_, nameB d[k].name, fun _ => hcall, ?_⟩
      · simp only [aLookup, hu, hfit, Bool.not_true, Bool.false_eq_true, if_false, mapE, List.getElem?_cons_zero, hf, hz, if_true, Option.isSome_some]
      · rw [hc] at hq
        rw [cond_true, cond_true]
        cases hn : nameB d[k].name <;> rw [hn] at hq <;> exact hq
    | false =>
      have hf := find_none d[k].name _ es 0 h1 hc
      refine ⟨0, false, ?_, nameB d[k].name, fun _ => hcall, ?_⟩
      · simp only [aLookup, hu, hfit, Bool.not_true, Bool.false_eq_true, if_false, mapE, List.getElem?_cons_zero, hf, hz, if_true, Option.isSome_none]
      · rw [hc] at hq
        cases hn : nameB d[k].name with
        | false =>
          rw [hn] at hq
          exact hq
        | true =>
          rw [hn] at hq
          simp only [Bool.not_true, cond_false] at hq ⊢
          refine ⟨[some (.map (es ++ [(.str d[k].name, .int .i64 (k : Int))]))], ?_, ?_⟩
          · simp only [aMapUpdate, hu, hfit, Bool.not_true, solid, Bool.or_self, Bool.false_eq_true, if_false, List.getElem?_cons_zero, hf, List.set_cons_zero]
          · refine ih _ ?_ ?_ ?_
            · rw [List.map_append, h1, List.take_succ_eq_append_getElem hk, List.map_append, List.map_append]
              rfl
            · intro v hv
              rw [List.map_append, List.mem_append] at hv
              rcases hv with hv | hv
              · exact h2 v hv
              · simp only [List.map_cons, List.map_nil, List.mem_singleton] at hv
                exact ⟨k, hv⟩
            · rw [List.take_succ_eq_append_getElem hk, List.map_append]
              exact hq
/-- names -/
theorem c140 (d : List F) (hl : d.length ≤ 536870912) (hs : ∀ f ∈ d, f.name.length ≤ 536870912) : CallT 140 [.sl false d.length (encFs d)] [] (.bool (apartB nameB [] (d.map F.name))) [] := by
  refine pureIs (M := ⟨false, 0⟩) (by kernel_rfl) (by simp) ?_
  rw [n140]
  exact names_loop d hl hs _ (Nat.zero_le _) [] rfl (fun v h => by cases h) rfl

/-- What is asked of a value that is no list and no document. -/
def scalarB (k i : Int) (t : Str) : Bool :=
  bif k == 1 || k == 2 || k == 11 then i == 0 && t == []
  else bif k == 3 then t == []
  else bif k == 9 then t == [] && (i == 0 || i == 1)
  else bif k == 10 then t == [] && decide (0 ≤ i)
  else bif k == 4 then i == 0 && (decide (t.length ≤ 4096) && utf8B t)
  else bif k == 7 then i == 0 && decide (t.length ≤ 4096)
  else bif k == 8 then i == 0 && t.length == 12
  else false

def ValidTold : Prop := (∀ s : Str, s.length ≤ 536870912 → CallT 168 [.str s] [] (.bool (utf8B s)) [])

/-- scalar -/
theorem c141 (W : ValidTold) (v : V) (hv : v.Sm) : CallT 141 [.agg (cV v)] [] (.bool (scalarB v.kind v.int v.text)) [] := by
  refine pureIs (M := ⟨false, 0⟩) (by kernel_rfl) (by simp) ?_
  rw [n141, le4096, eq12]
  have hu := W v.text hv.text
  generalize v.kind = k
  generalize v.int = i
  generalize v.text = t at hu ⊢
  unfold scalarB
  cases e1 : k == 1 with
  | true => simp only [cond_true, Bool.true_or]; cases i == 0 <;> rfl
  | false =>
  cases e2 : k == 2 with
  | true => simp only [cond_true, cond_false, Bool.true_or, Bool.false_or]; cases i == 0 <;> rfl
  | false =>
  cases e3 : k == 11 with
  | true => simp only [cond_true, cond_false, Bool.true_or, Bool.false_or]; cases i == 0 <;> rfl
  | false =>
  simp only [cond_false, Bool.or_self]
  cases e4 : k == 3 with
  | true => rfl
  | false =>
  simp only [cond_false]
  cases e5 : k == 9 with
  | true => simp only [cond_true]; cases t == [] <;> cases i == 0 <;> rfl
  | false =>
  simp only [cond_false]
  cases e6 : k == 10 with
  | true =>
    have : decide (i ≥ 0) = decide (0 ≤ i) := rfl
    simp only [cond_true, this]; cases t == [] <;> rfl
  | false =>
  simp only [cond_false]
  cases e7 : k == 4 with
  | true =>
    simp only [cond_true]
    refine ⟨_, fun _ => pcIs (by kernel_rfl) (by simp) hu, ?_⟩
    cases i == 0 <;> cases decide (t.length ≤ 4096) <;> rfl
  | false =>
  simp only [cond_false]
  cases e8 : k == 7 with
  | true => simp only [cond_true]; cases i == 0 <;> rfl
  | false =>
  simp only [cond_false]
  cases e9 : k == 8 with
  | true => simp only [cond_true]; cases i == 0 <;> rfl
  | false => rfl

theorem right_list (v : V) (hv : v.Sm) (hk6 : v.kind = 6) (ih : ∀ x ∈ v.list, CallT 106 [.agg (cV x)] [] (.bool (x.formed nameB)) []) (Q : AV → Heap → Prop) {k : Nat} (hk : k ≤ v.list.length) :
    Q (.bool ((v.list.drop k).all (V.formed nameB))) [] → LH ⟨false, 0⟩ 142 3 [.fn (.func 106) [], .box (cV v), .sl false v.list.length (encVs v.list), .int .i64 (v.list.length : Int), .int .i64 (k : Int)] [] Q := by
  have hl := hv.list
  refine up_to (P := fun k => Q (.bool ((v.list.drop k).all (V.formed nameB))) [] → LH ⟨false, 0⟩ 142 3 [.fn (.func 106) [], .box (cV v), .sl false v.list.length (encVs v.list), .int .i64 (v.list.length : Int), .int .i64 (k : Int)] [] Q) ?_ ?_ hk
  · intro hq
    refine labelIs ?_
    rw [l142_3_106]
    have hlt : decide ((v.list.length : Int) < (v.list.length : Int)) = false := by simp
    have e5 : (v.kind == (5 : Int)) = false := by rw [hk6]; rfl
    rw [hlt, cond_false, e5, cond_false]
    rw [List.drop_length] at hq
    exact hq
  · intro k hk ih2 hq
    refine labelIs ?_
    rw [l142_3_106]
    have hlt : decide ((k : Int) < (v.list.length : Int)) = true := by simpa using hk
    rw [hlt, cond_true, Int.toNat_natCast, wrap_of (by omega)]
    refine ⟨by omega, _, _, _, _, _, _, _, seg_V (List.getElem?_eq_getElem hk), _, pcIs (by kernel_rfl) (by simp) (ih _ (List.getElem_mem hk)), ?_⟩
    rw [drop_get hk, List.all_cons] at hq
    cases hc : V.formed nameB v.list[k] with
    | true =>
      rw [hc, Bool.true_and] at hq
      exact ih2 hq
    | false =>
      rw [hc, Bool.false_and] at hq
      exact hq
theorem right_doc (v : V) (hv : v.Sm) (ih : ∀ f ∈ v.doc, CallT 106 [.agg (cV f.value)] [] (.bool (f.value.formed nameB)) []) (Q : AV → Heap → Prop) {k : Nat} (hk : k ≤ v.doc.length) :
    Q (.bool ((v.doc.drop k).all fun f => V.formed nameB f.value)) [] → LH ⟨false, 0⟩ 142 10 [.fn (.func 106) [], .sl false v.doc.length (encFs v.doc), .int .i64 (v.doc.length : Int), .int .i64 (k : Int)] [] Q := by
  have hl := hv.doc
  refine up_to (P := fun k => Q (.bool ((v.doc.drop k).all fun f => V.formed nameB f.value)) [] → LH ⟨false, 0⟩ 142 10 [.fn (.func 106) [], .sl false v.doc.length (encFs v.doc), .int .i64 (v.doc.length : Int), .int .i64 (k : Int)] [] Q) ?_ ?_ hk
  · intro hq
    refine labelIs ?_
    rw [l142_10_106]
    have hlt : decide ((v.doc.length : Int) < (v.doc.length : Int)) = false := by simp
    rw [hlt, cond_false]
    rw [List.drop_length] at hq
    exact hq
  · intro k hk ih2 hq
    refine labelIs ?_
    rw [l142_10_106]
    have hlt : decide ((k : Int) < (v.doc.length : Int)) = true := by simpa using hk
    rw [hlt, cond_true, Int.toNat_natCast, wrap_of (by omega)]
    refine ⟨by omega, _, _, _, _, _, _, _, _, seg_F (List.getElem?_eq_getElem hk), _, pcIs (by kernel_rfl) (by simp) (ih _ (List.getElem_mem hk)), ?_⟩
    rw [drop_get hk, List.all_cons] at hq
    cases hc : V.formed nameB v.doc[k].value with
    | true =>
      rw [hc, Bool.true_and] at hq
      exact ih2 hq
    | false =>
      rw [hc, Bool.false_and] at hq
      exact hq

/-- right -/
theorem c106 (W : ValidTold) : ∀ v : V, v.Sm → CallT 106 [.agg (cV v)] [] (.bool (v.formed nameB)) [] := by
  refine V.ind' (fun v ihl ihd hv => ?_)
  replace ihl := fun x hx => ihl x hx (hv.elem hx)
  replace ihd := fun f hf => ihd f hf (hv.field hf).value
  refine pureIs (M := ⟨false, 0⟩) (by kernel_rfl) (by simp) ?_
  rw [n106, formed_eq, gt0, gt0]
  by_cases h6 : v.kind = 6
  · have e6 : (v.kind == (6 : Int)) = true := by simpa using h6
    have hcall : CallT 142 [.agg (cV v), .fn (.func 106) []] [] (.bool (v.list.all (V.formed nameB))) [] := by
      refine heapIs (M := ⟨false, 0⟩) (by kernel_rfl) ?_
      rw [n142_106, e6, cond_true]
      exact right_list v hv h6 ihl _ (Nat.zero_le _) ⟨rfl, rfl⟩
    rw [e6, cond_true]
    rw [show headB v.kind v.int v.text v.list.length v.doc.length = (v.doc.length == 0 && (v.int == 0 && v.text == [])) by simp only [headB, h6]; simp]
    simp only [bne]
    cases h1 : v.int == 0
    · simp
    cases h2 : v.text == []
    · simp
    cases h3 : v.doc.length == 0
    · simp
    have hd : v.doc = [] := List.eq_nil_of_length_eq_zero (by simpa using h3)
    refine ⟨_, _, hcall, ?_⟩
    simp [hd, apartB]
  · have e6 : (v.kind == (6 : Int)) = false := by simpa using h6
    rw [e6, cond_false]
    by_cases h5 : v.kind = 5
    · have e5 : (v.kind == (5 : Int)) = true := by simpa using h5
      have hcall : CallT 142 [.agg (cV v), .fn (.func 106) []] [] (.bool (v.doc.all fun f => V.formed nameB f.value)) [] := by
        refine heapIs (M := ⟨false, 0⟩) (by kernel_rfl) ?_
        rw [n142_106, e6, cond_false, e5, cond_true]
        exact right_doc v hv ihd _ (Nat.zero_le _) ⟨rfl, rfl⟩
      rw [e5, cond_true]
      refine ⟨_, fun _ => pcIs (by kernel_rfl) (by simp) (c140 v.doc hv.doc fun f hf => (hv.field hf).name), ?_⟩
      rw [show headB v.kind v.int v.text v.list.length v.doc.length = (v.list.length == 0 && (v.int == 0 && v.text == [])) by simp only [headB, h5]; simp]
      simp only [bne]
      cases h1 : v.int == 0
      · simp
      cases h2 : v.text == []
      · simp
      cases h3 : v.list.length == 0
      · simp
      have hd : v.list = [] := List.eq_nil_of_length_eq_zero (by simpa using h3)
      cases h4 : apartB nameB [] (v.doc.map F.name)
      · simp [hd]
      refine ⟨_, _, hcall, ?_⟩
      simp [hd]
    · have e5 : (v.kind == (5 : Int)) = false := by simpa using h5
      rw [e5, cond_false]
      refine ⟨_, fun _ => pcIs (by kernel_rfl) (by simp) (c141 W v hv), ?_⟩
      have c0 : ∀ n : Nat, ((n : Int) == 0) = (n == 0) := by
        intro n
        rw [Bool.eq_iff_iff]; simp only [beq_iff_eq]; omega
      rw [c0, c0]
      simp only [headB, e5, e6, Bool.false_or]
      cases h1 : v.list.length == 0
      · simp
      cases h2 : v.doc.length == 0
      · simp
      have hl : v.list = [] := List.eq_nil_of_length_eq_zero (by simpa using h1)
      have hd : v.doc = [] := List.eq_nil_of_length_eq_zero (by simpa using h2)
      simp only [hl, hd, List.all_nil, List.map_nil, apartB, Bool.and_self, Bool.and_true, Bool.true_and, cond_true]
      show AV.bool _ = AV.bool _
      congr 1
      have hne : ∀ (a b : Int), a ≠ b → ∀ k : Int, k = a → (k == b) = false := by
        intro a b hab k hk; simp; omega
      generalize v.kind = k at *
      clear ihl ihd
      unfold scalarB
      rcases (by omega : k = 1 ∨ k = 2 ∨ k = 3 ∨ k = 4 ∨ k = 7 ∨ k = 8 ∨ k = 9 ∨ k = 10 ∨ k = 11 ∨ (k < 1 ∨ 11 < k)) with rfl | rfl | rfl | rfl | rfl | rfl | rfl | rfl | rfl | hk
      all_goals try (simp; done)
      have a1 : (k == (1 : Int)) = false := by simp; omega
      have a2 : (k == (2 : Int)) = false := by simp; omega
      have a3 : (k == (3 : Int)) = false := by simp; omega
      have a4 : (k == (4 : Int)) = false := by simp; omega
      have a7 : (k == (7 : Int)) = false := by simp; omega
      have a8 : (k == (8 : Int)) = false := by simp; omega
      have a9 : (k == (9 : Int)) = false := by simp; omega
      have a10 : (k == (10 : Int)) = false := by simp; omega
      have a11 : (k == (11 : Int)) = false := by simp; omega
      have ar : (decide (1 ≤ k) && decide (k ≤ 11)) = false := by
        rcases hk with hk | hk
        · have : decide (1 ≤ k) = false := by simp; omega
          rw [this]; rfl
        · have : decide (k ≤ 11) = false := by simp; omega
          rw [this]; simp
      simp only [a1, a2, a3, a4, a7, a8, a9, a10, a11, ar, Bool.or_self, cond_false, Bool.false_and]

/-- Valid -/
theorem c60 (W : ValidTold) (v : V) (hv : v.Sm) : CallT 60 [.agg (cV v)] [] (.bool (validB nameB v)) [] := by
  refine pureIs (M := ⟨false, 0⟩) (by kernel_rfl) (by simp) ?_
  rw [n60]
  refine ⟨_, pcIs (by kernel_rfl) (by simp) (c104 v hv), _, fun _ => pcIs (by kernel_rfl) (by simp) (c105 v hv), _, fun _ => pcIs (by kernel_rfl) (by simp) (c106 W v hv), ?_⟩
  have h1 := minle v.depth 17 16 (by omega)
  have h2 := minle v.size 1025 1024 (by omega)
  rw [show ((16 : Nat) : Int) = 16 from rfl] at h1
  rw [show ((1024 : Nat) : Int) = 1024 from rfl] at h2
  rw [h1, h2, validB]
  cases decide (v.depth ≤ 16) <;> cases decide (v.size ≤ 1024) <;> rfl
end Go.Proofs.YtdnhhdplcminlaaGreatDoor.AI

/- Expressions: one node, in the program and in the reference. -/
set_option maxHeartbeats 1000000
set_option maxRecDepth 100000
set_option linter.unusedVariables false
set_option linter.unusedSimpArgs false
set_option linter.unusedSectionVars false
namespace Go.Proofs.YtdnhhdplcminlaaGreatDoor.AI
open Go

/-- The table of operators: names and shapes. -/
def opT : List (Str × Int) := [([], 0),([36, 118, 97, 108, 117, 101], 1),([], 1),([], 1),([36, 97, 100, 100], 6),([36, 115, 117, 98], 3),([36, 109, 117, 108], 6),([36, 100, 105, 118], 3),([36, 109, 111, 100], 3),([36, 99, 109, 112], 3),([36, 101, 113], 3),([36, 110, 101], 3),([36, 103, 116], 3),([36, 103, 101], 3),([36, 108, 116], 3),([36, 108, 101], 3),([36, 97, 110, 100], 6),([36, 111, 114], 6),([36, 110, 111, 116], 2),([36, 105, 102], 4),([36, 105, 102, 78, 117, 108, 108], 3),([36, 99, 111, 110, 99, 97, 116], 6),([36, 108, 111, 119, 101, 114], 2),([36, 117, 112, 112, 101, 114], 2),([36, 108, 101, 110, 103, 116, 104], 2),([36, 115, 108, 105, 99, 101], 4),([36, 115, 105, 122, 101], 2),([36, 97, 116], 3),([36, 105, 110], 3),([36, 106, 111, 105, 110], 6),([36, 114, 101, 118, 101, 114, 115, 101], 2),([36, 115, 117, 109], 2),([36, 109, 97, 112], 5),([36, 102, 105, 108, 116, 101, 114], 5),([], 7),([], 6),([36, 107, 105, 110, 100], 2),([36, 109, 101, 114, 103, 101], 6)]
def opName (k : Nat) : Str := (opT.getD k ([], 0)).1
def opShape (k : Nat) : Int := (opT.getD k ([], 0)).2

def tabEnc : List AV := opT.flatMap fun x => [.str x.1, .int .i64 x.2]
theorem tab_eq : gT cfg 0 = tabEnc := by kernel_rfl
theorem opT_get {k : Nat} (hk : k < 38) : opT[k]? = some (opName k, opShape k) := by
  have hl : k < opT.length := hk
  rw [List.getElem?_eq_getElem hl]
  simp [opName, opShape, hl]
theorem seg_shape {k : Nat} (hk : k < 38) : seg (gT cfg 0) (0 + k * 2 + 1) 1 = some [.int .i64 (opShape k)] := by
  rw [tab_eq]
  have := seg_flat (f := fun x : Str × Int => [AV.str x.1, .int .i64 x.2]) (sz := 2) (fun _ => rfl) (opT_get hk) (o := 1) (n := 1) (by omega)
  rw [show 0 + k * 2 + 1 = k * 2 + 1 by omega]
  exact this
theorem seg_name {k : Nat} (hk : k < 38) : seg (gT cfg 0) (0 + k * 2 + 0) 1 = some [.str (opName k)] := by
  rw [tab_eq]
  have := seg_flat (f := fun x : Str × Int => [AV.str x.1, .int .i64 x.2]) (sz := 2) (fun _ => rfl) (opT_get hk) (o := 0) (n := 1) (by omega)
  rw [show 0 + k * 2 + 0 = k * 2 + 0 by omega]
  exact this

/-- The number of kids is right. -/
def kidsOkB (op : Int) (n m : Nat) : Bool :=
  !(bif decide (kidsN op ≥ 0) then (n : Int) != kidsN op else false) && !(bif op == 34 then (bif (n : Int) != (m : Int) then true else (n : Int) == 0) else false)

/-- What shapes say of the number of kids. -/
def byShape (s : Int) (n m : Nat) : Bool :=
  bif s == 1 then (n : Int) == 0 else bif s == 2 then (n : Int) == 1 else bif s == 3 then (n : Int) == 2 else bif s == 5 then (n : Int) == 2 else bif s == 4 then (n : Int) == 3
  else bif s == 7 then (bif decide ((n : Int) > 0) then (n : Int) == (m : Int) else false) else true

theorem cases37 {k : Nat} (h : 1 ≤ k) (h2 : k < 38) {p : Nat → Prop} (hp : ∀ j ∈ (List.range 37), p (j + 1)) : p k := by
  have := hp (k - 1) (by simp; omega)
  rwa [show k - 1 + 1 = k by omega] at this

theorem shape_kids (n m : Nat) {k : Nat} (h : 1 ≤ k) (h2 : k < 38) : byShape (opShape k) n m = kidsOkB k n m := by
  have key : ∀ s kn : Int, ∀ d : Bool, ((s == 1 && kn == 0 && !d) || (s == 2 && kn == 1 && !d) || ((s == 3 || s == 5) && kn == 2 && !d) || (s == 4 && kn == 3 && !d) || (s == 6 && kn == -1 && !d) || (s == 7 && kn == -1 && d)) = true →
      byShape s n m = (!(bif decide (kn ≥ 0) then (n : Int) != kn else false) && !(bif d then (bif (n : Int) != (m : Int) then true else (n : Int) == 0) else false)) := by
    intro s kn d hs
    simp only [Bool.or_eq_true, Bool.and_eq_true, beq_iff_eq, Bool.not_eq_true'] at hs
    rcases hs with ((((⟨⟨rfl, rfl⟩, rfl⟩ | ⟨⟨rfl, rfl⟩, rfl⟩) | ⟨⟨rfl | rfl, rfl⟩, rfl⟩) | ⟨⟨rfl, rfl⟩, rfl⟩) | ⟨⟨rfl, rfl⟩, rfl⟩) | ⟨⟨rfl, rfl⟩, rfl⟩
    all_goals simp only [byShape, Int.reduceBEq, cond_true, cond_false, Bool.not_false, Bool.and_true, bne, Int.reduceGE, Int.reduceLE, Int.reduceNeg, decide_true, decide_false, Bool.not_not]
    · simp
      rw [Bool.eq_iff_iff]
      simp only [Bool.and_eq_true, decide_eq_true_eq, beq_iff_eq, Bool.not_eq_true', Bool.or_eq_true, decide_eq_false_iff_not]
      simp only [beq_eq_false_iff_ne, ne_eq]
      omega
  exact key _ _ _ (cases37 h h2 (p := fun k => ((opShape k == 1 && kidsN k == 0 && !((k : Int) == 34)) || (opShape k == 2 && kidsN k == 1 && !((k : Int) == 34)) || ((opShape k == 3 || opShape k == 5) && kidsN k == 2 && !((k : Int) == 34)) || (opShape k == 4 && kidsN k == 3 && !((k : Int) == 34)) || (opShape k == 6 && kidsN k == -1 && !((k : Int) == 34)) || (opShape k == 7 && kidsN k == -1 && ((k : Int) == 34))) = true) (by decide))

/-- kids -/
theorem c82 (e : E) (he : e.Sm) (h : 1 ≤ e.op ∧ e.op ≤ 37) : CallT 82 [.agg (cE e)] [] (.bool (kidsOkB e.op e.kids.length e.names.length)) [] := by
  refine pureIs (M := ⟨false, 0⟩) (by kernel_rfl) (by simp) ?_
  rw [n82]
  obtain ⟨k, hk⟩ : ∃ k : Nat, e.op = k := ⟨e.op.toNat, by omega⟩
  have h1 : 1 ≤ k := by omega
  have h2 : k < 38 := by omega
  refine ⟨by omega, opShape k, by rw [hk, Int.toNat_natCast]; exact seg_shape h2, ?_⟩
  rw [hk, ← shape_kids _ _ h1 h2]
  generalize opShape k = s
  simp only [byShape]
  generalize (e.kids.length : Int) = n
  cases s == 1 <;> try rfl
  cases s == 2 <;> try rfl
  cases s == 3 <;> try rfl
  cases s == 5 <;> try rfl
  cases s == 4 <;> try rfl
  cases s == 7 <;> rfl

theorem loop_shape {k : Nat} (h : 1 ≤ k) (h2 : k < 38) : (opShape k == 5) = ((k : Int) == 32 || (k : Int) == 33) :=
  cases37 h h2 (p := fun k => (opShape k == 5) = ((k : Int) == 32 || (k : Int) == 33)) (by decide)

/-- What is left over in a node. -/
def unusedB (e : E) : Bool :=
  e.n != 0 || ((!(e.op == 2) && !(e.op == 3)) && decide ((e.path.length : Int) > 0)) || (!(e.op == 3 || (e.op == 32 || e.op == 33)) && !(e.name == [])) || (!(e.op == 34) && decide ((e.names.length : Int) > 0)) || (!(e.op == 1) && !(isZeroV e.arg))
def restE (e : E) : Int := bif e.op == 1 && !(validB nameB e.arg) then 8 else bif unusedB e then 4 else 0
/-- The error of a node by itself, or 0. -/
def nodeE (e : E) : Int :=
  bif (decide (e.op < 1) || decide (e.op > 37)) || !(kidsOkB e.op e.kids.length e.names.length) then 11
  else bif (e.op == 2 && !(pathOkB e.path)) || ((e.op == 3 && decide ((e.path.length : Int) > 0)) && !(pathOkB e.path)) then 10
  else bif ((e.op == 3 || (e.op == 32 || e.op == 33)) && !(nameB e.name)) || (e.op == 34 && !(apartB nameB [] e.names)) then 9
  else restE e

theorem unused_prog : ∀ n0 b2 b3 pt nm0 b34 nt b1 ak ai at0 al ad lp : Bool,
    (bif (bif bif bif bif n0 then true else bif bif !b2 then !b3 else false then pt else false then true else bif !(bif b3 then true else lp) then !nm0 else false then true else bif !b34 then nt else false then true
      else bif !b1 then bif bif bif bif ak then true else ai then true else !at0 then true else al then true else ad else false) then true else false) =
    (n0 || ((!b2 && !b3) && pt) || (!(b3 || lp) && !nm0) || (!b34 && nt) || (!b1 && !(!ak && (!ai && (at0 && (!al && !ad)))))) := by decide

theorem c52_rest (W : ValidTold) (e : E) (he : e.Sm) (lp b3 : Bool) (hlp : (b3 || lp) = (e.op == 3 || (e.op == 32 || e.op == 33))) (hb3 : b3 = (e.op == 3)) (Q : AV → Prop) (hq : Q (.int .i64 (restE e))) :
    ∃ (b26 : Bool), ((e.op == (1 : Int) && true) = true → PC Tryz.prog cfg 60 [AV.agg [AV.int IntKind.i64 e.arg.kind, AV.int IntKind.i64 e.arg.int, AV.str e.arg.text, AV.sl false e.arg.list.length (encVs e.arg.list), AV.sl false e.arg.doc.length (encFs e.arg.doc)]] (AV.bool b26)) ∧
      bif bif e.op == (1 : Int) then !b26 else false then Q (AV.int IntKind.i64 8)
      else bif bif bif bif bif e.n != (0 : Int) then true else bif bif e.op != (2 : Int) then !b3 else false then decide ((e.path.length : Int) > (0 : Int)) else false then true else bif !(bif b3 then true else lp) then !e.name == [] else false then true
          else bif e.op != (34 : Int) then decide ((e.names.length : Int) > (0 : Int)) else false then true
        else bif e.op != (1 : Int) then bif bif bif bif e.arg.kind != (0 : Int) then true else e.arg.int != (0 : Int) then true else !e.arg.text == [] then true else decide ((e.arg.list.length : Int) > (0 : Int)) then true else decide ((e.arg.doc.length : Int) > (0 : Int)) else false
        then Q (AV.int IntKind.i64 4) else Q (AV.int IntKind.i64 0) := by
  refine ⟨_, fun _ => pcIs (by kernel_rfl) (by simp) (c60 W e.arg he.arg), ?_⟩
  unfold restE at hq
  cases h1 : e.op == 1 && !(validB nameB e.arg) with
  | true =>
    rw [h1] at hq
    have : (bif e.op == (1 : Int) then !(validB nameB e.arg) else false) = true := by
      cases h : e.op == 1 <;> simp_all
    rw [this]
    exact hq
  | false =>
    rw [h1, cond_false] at hq
    have : (bif e.op == (1 : Int) then !(validB nameB e.arg) else false) = false := by
      cases h : e.op == 1 <;> simp_all
    rw [this, cond_false]
    have hu := unused_prog (e.n != 0) (e.op == 2) b3 (decide ((e.path.length : Int) > 0)) (e.name == []) (e.op == 34) (decide ((e.names.length : Int) > 0)) (e.op == 1) (e.arg.kind != 0) (e.arg.int != 0) (e.arg.text == []) (decide ((e.arg.list.length : Int) > 0)) (decide ((e.arg.doc.length : Int) > 0)) lp
    have hz : (!(e.arg.kind != 0) && (!(e.arg.int != 0) && (e.arg.text == [] && (!(decide ((e.arg.list.length : Int) > 0)) && !(decide ((e.arg.doc.length : Int) > 0)))))) = isZeroV e.arg := by
      rw [gt0, gt0, isZeroV]
      simp only [bne, Bool.not_not]
    rw [hz, hlp] at hu
    have hub : unusedB e = (e.n != 0 || ((!(e.op == 2) && !b3) && decide ((e.path.length : Int) > 0)) || (!(e.op == 3 || (e.op == 32 || e.op == 33)) && !(e.name == [])) || (!(e.op == 34) && decide ((e.names.length : Int) > 0)) || (!(e.op == 1) && !(isZeroV e.arg))) := by
      rw [unusedB, hb3]
    rw [← hub] at hu
    have he2 : ∀ x : Bool, (bif x then true else false) = x := fun x => by cases x <;> rfl
    rw [he2] at hu
    rw [← hu] at hq
    have push : ∀ c : Bool, Q (.int .i64 (bif c then 4 else 0)) → bif c then Q (.int .i64 4) else Q (.int .i64 0) := by intro c; cases c <;> exact id
    simp only [bne] at hq ⊢
    exact push _ hq
end Go.Proofs.YtdnhhdplcminlaaGreatDoor.AI

/- Expressions: one node; the whole tree. -/
set_option maxHeartbeats 1000000
set_option maxRecDepth 100000
set_option linter.unusedVariables false
set_option linter.unusedSimpArgs false
set_option linter.unusedSectionVars false
namespace Go.Proofs.YtdnhhdplcminlaaGreatDoor.AI
open Go

theorem take_encS (l : List Str) (k : Nat) : List.take k (encS l) = encS (l.take k) := by simp [encS, List.map_take]

theorem node_loop (W : ValidTold) (e : E) (he : e.Sm) (lp b3 : Bool) (hlp : (b3 || lp) = (e.op == 3 || (e.op == 32 || e.op == 33))) (hb3 : b3 = (e.op == 3)) (lq : Bool) (hlq : lq = (bif b3 then true else lp)) (h : Heap) (Q : AV → Prop) {k : Nat} (hk : k ≤ e.names.length) :
    Q (.int .i64 (bif !(apartB nameB (e.names.take k) (e.names.drop k)) then 9 else restE e)) →
    LP 52 11 [.box (cE e), .bool b3, .bool lq, .sl false e.names.length (encS e.names), .int .i64 (e.names.length : Int), .int .i64 (k : Int)] h Q := by
  have hl := he.names.1
  refine up_to (P := fun k => Q (.int .i64 (bif !(apartB nameB (e.names.take k) (e.names.drop k)) then 9 else restE e)) →
    LP 52 11 [.box (cE e), .bool b3, .bool lq, .sl false e.names.length (encS e.names), .int .i64 (e.names.length : Int), .int .i64 (k : Int)] h Q) ?_ ?_ hk
  · intro hq
    refine labelIs ?_
    rw [l52_11]
    have hlt : decide ((e.names.length : Int) < (e.names.length : Int)) = false := by simp
    rw [hlt, cond_false]
    rw [List.drop_length] at hq
    rw [hlq]
    exact c52_rest W e he lp b3 hlp hb3 Q (by simpa [apartB] using hq)
  · intro k hk ih hq
    have hs := he.names.2 _ (List.getElem_mem hk)
    refine labelIs ?_
    rw [l52_11]
    rw [drop_get hk, apartB] at hq
    have hlt : decide ((k : Int) < (e.names.length : Int)) = true := by simpa using hk
    rw [hlt, cond_true, Int.toNat_natCast, wrap_of (by omega)]
    refine ⟨by omega, _, seg_S (List.getElem?_eq_getElem hk), nameB e.names[k], pcIs (by kernel_rfl) (by simp) (c84 _ hs), fun _ => ⟨by omega, trivial⟩, (e.names.take k).contains e.names[k], fun _ => ?_, ?_⟩
    · have h1 : k - 0 = (e.names.take k).length := by simp; omega
      have h2 : List.take ((k - 0) * 1) (encS e.names) = encS (e.names.take k) := by rw [take_encS, Nat.sub_zero, Nat.mul_one]
      rw [h2, h1]
      exact pcIs (by kernel_rfl) (by simp) (c85 _ _ (by simp; omega))
    · cases hn : nameB e.names[k] with
      | false =>
        rw [hn] at hq
        exact hq
      | true =>
        rw [hn] at hq
        cases hc : (e.names.take k).contains e.names[k] with
        | true =>
          rw [hc] at hq
          exact hq
        | false =>
          rw [hc] at hq
          simp only [Bool.not_true, cond_false] at hq ⊢
          refine ih ?_
          rw [List.take_succ_eq_append_getElem hk]
          exact hq

/-- node -/
theorem c52 (W : ValidTold) (e : E) (he : e.Sm) : CallT 52 [.agg (cE e)] [] (.int .i64 (nodeE e)) [] := by
  refine pureIs (M := ⟨false, 0⟩) (by kernel_rfl) (by simp) ?_
  rw [n52]
  unfold nodeE
  by_cases hop : 1 ≤ e.op ∧ e.op ≤ 37
  · have e1 : decide (e.op < 1) = false := by simp; omega
    have e2 : decide (e.op > 37) = false := by simp; omega
    rw [e1, e2, cond_false]
    refine ⟨_, fun _ => pcIs (by kernel_rfl) (by simp) (c82 e he hop), ?_⟩
    cases hk : kidsOkB e.op e.kids.length e.names.length
    · rfl
    simp only [Bool.not_true, cond_false, Bool.or_self]
    refine ⟨_, fun _ => pcIs (by kernel_rfl) (by simp) (c83 _ he.path), _, fun _ => pcIs (by kernel_rfl) (by simp) (c83 _ he.path), ?_⟩
    have a1 : ∀ b2 b3 pt po : Bool, (bif bif b2 then !po else false then true else bif bif b3 then pt else false then !po else false) = ((b2 && !po) || ((b3 && pt) && !po)) := by decide
    rw [a1]
    cases hp : ((e.op == 2 && !(pathOkB e.path)) || ((e.op == 3 && decide ((e.path.length : Int) > 0)) && !(pathOkB e.path)))
    case true => rfl
    rw [cond_false, cond_false]
    obtain ⟨k, hk'⟩ : ∃ k : Nat, e.op = k := ⟨e.op.toNat, by omega⟩
    have h1 : 1 ≤ k := by omega
    have h2 : k < 38 := by omega
    refine ⟨fun _ => by omega, opShape k, fun _ => by rw [hk', Int.toNat_natCast]; exact seg_shape h2, nameB e.name, fun _ => pcIs (by kernel_rfl) (by simp) (c84 _ he.name), ?_⟩
    have hls := loop_shape h1 h2
    rw [← hk'] at hls
    rw [hls]
    have a2 : ∀ b3 lp nm : Bool, (bif bif b3 then true else lp then !nm else false) = ((b3 || lp) && !nm) := by decide
    rw [a2]
    cases hn : ((e.op == 3 || (e.op == 32 || e.op == 33)) && !(nameB e.name))
    case true => rfl
    rw [cond_false, Bool.false_or]
    cases h34 : e.op == 34 with
    | true =>
      rw [cond_true, Bool.true_and]
      refine node_loop W e he (e.op == 32 || e.op == 33) (e.op == 3) rfl rfl _ rfl [] _ (Nat.zero_le _) ?_
      rw [List.take_zero, List.drop_zero]
    | false =>
      rw [cond_false, Bool.false_and, cond_false]
      exact c52_rest W e he (e.op == 32 || e.op == 33) (e.op == 3) rfl rfl (fun x => x = AV.int .i64 (restE e)) rfl
  · have e1 : (bif decide (e.op < 1) then true else decide (e.op > 37)) = true := by
      cases h : decide (e.op < 1)
      · simp at h ⊢; omega
      · rfl
    have e2 : (decide (e.op < 1) || decide (e.op > 37)) = true := by
      cases h : decide (e.op < 1)
      · rw [h] at e1; exact e1
      · rfl
    rw [e1, e2]
    exact ⟨true, (fun h => by cases h), rfl⟩

theorem pc22_zero (v : V) (hv : v.Sm) : PCT 22 [.agg (cV v), .agg [.int .i64 0, .int .i64 0, .str [], .nilsl, .nilsl]] (.bool (isZeroV v)) := by
  have hz : V.zero.Sm := ⟨by simp, by simp, by simp, trivial, trivial⟩
  rw [← same_zero]
  refine pcOf (a := [.agg (cV v), .agg (cV V.zero)]) (by kernel_rfl) ?_ (c22 v hv V.zero hz)
  have h1 : eraseW false noRes (.agg (cV v)) = some (.agg (cV v)) := by
    have : CnW (.agg (cV v)) := by simp
    exact this
  have h2 : eraseW false noRes (.agg [.int .i64 0, .int .i64 0, .str [], .nilsl, .nilsl]) = some (.agg (cV V.zero)) := by rfl
  simp only [eraseL, h1, h2]

theorem unused_ref : ∀ n0 b2 b3 pt nm0 b34 nt b1 z lp : Bool,
    (bif bif bif bif bif bif !b2 then !b3 else false then pt else false then true else bif !(bif bif b3 then true else lp then true else false) then !nm0 else false then true else bif !b34 then nt else false then true else bif !b1 then !z else false then true else n0) =
    (n0 || ((!b2 && !b3) && pt) || (!(b3 || lp) && !nm0) || (!b34 && nt) || (!b1 && !z)) := by decide

/-- node (the reference) -/
theorem c53 (U : Utf8Told) (e : E) (he : e.Sm) : CallT 53 [.agg (cE e)] [] (.int .i64 (nodeE e)) [] := by
  refine pureIs (M := ⟨false, 0⟩) (by kernel_rfl) (by simp) ?_
  rw [n53]
  unfold nodeE
  refine ⟨_, fun _ => pcIs (by kernel_rfl) (by simp) (c79 _), _, fun _ => pcIs (by kernel_rfl) (by simp) (c79 _), ?_⟩
  have a0 : ∀ l g k1 k2 b34 : Bool, (bif bif bif l then true else g then true else k1 then true else bif b34 then k2 else false) = ((l || g) || !(!k1 && !(bif b34 then k2 else false))) := by decide
  rw [a0]
  unfold kidsOkB
  cases ((decide (e.op < 1) || decide (e.op > 37)) || !(!(bif decide (kidsN e.op ≥ 0) then (e.kids.length : Int) != kidsN e.op else false) && !(bif e.op == 34 then (bif (e.kids.length : Int) != (e.names.length : Int) then true else (e.kids.length : Int) == 0) else false)))
  case true => rfl
  rw [cond_false, cond_false]
  refine ⟨_, fun _ => pcIs (by kernel_rfl) (by simp) (c86 _ he.path), _, fun _ => pcIs (by kernel_rfl) (by simp) (c86 _ he.path), ?_⟩
  have a1 : ∀ b2 b3 pt po : Bool, (bif bif b2 then !po else false then true else bif bif b3 then pt else false then !po else false) = ((b2 && !po) || ((b3 && pt) && !po)) := by decide
  rw [a1]
  cases ((e.op == 2 && !(pathOkB e.path)) || ((e.op == 3 && decide ((e.path.length : Int) > 0)) && !(pathOkB e.path)))
  case true => rfl
  rw [cond_false, cond_false]
  refine ⟨_, fun _ => pcIs (by kernel_rfl) (by simp) (c87 _ he.name), _, fun _ => pcIs (by kernel_rfl) (by simp) (c88 _ he.names), ?_⟩
  have a2 : ∀ b3 b32 b33 nm b34 ap : Bool, (bif bif bif bif b3 then true else b32 then true else b33 then !nm else false then true else bif b34 then !ap else false) = (((b3 || (b32 || b33)) && !nm) || (b34 && !ap)) := by decide
  rw [a2]
  cases (((e.op == 3 || (e.op == 32 || e.op == 33)) && !(nameB e.name)) || (e.op == 34 && !(apartB nameB [] e.names)))
  case true => rfl
  rw [cond_false, cond_false]
  unfold restE
  refine ⟨_, fun _ => pcIs (by kernel_rfl) (by simp) (c89 U _ he.arg), ?_⟩
  have a3 : ∀ b1 v : Bool, (bif b1 then !v else false) = (b1 && !v) := by decide
  rw [a3]
  cases (e.op == 1 && !(validB nameB e.arg))
  case true => rfl
  rw [cond_false, cond_false]
  refine ⟨_, fun _ => pc22_zero e.arg he.arg, ?_⟩
  have hu : ∀ n0 b2 b3 pt nm0 b34 nt b1 z b32 b33 : Bool,
    (bif bif bif bif bif bif !b2 then !b3 else false then pt else false then true else bif !(bif bif b3 then true else b32 then true else b33) then !nm0 else false then true else bif !b34 then nt else false then true else bif !b1 then !z else false then true else n0) =
    (n0 || ((!b2 && !b3) && pt) || (!(b3 || (b32 || b33)) && !nm0) || (!b34 && nt) || (!b1 && !z)) := by decide
  have := hu (e.n != 0) (e.op == 2) (e.op == 3) (decide ((e.path.length : Int) > 0)) (e.name == []) (e.op == 34) (decide ((e.names.length : Int) > 0)) (e.op == 1) (isZeroV e.arg) (e.op == 32) (e.op == 33)
  have push : ∀ c : Bool, bif c then AV.int .i64 4 = AV.int .i64 (bif c then 4 else 0) else AV.int .i64 0 = AV.int .i64 (bif c then 4 else 0) := by intro c; cases c <;> rfl
  unfold unusedB
  rw [← this]
  simp only [bne]
  exact push _
end Go.Proofs.YtdnhhdplcminlaaGreatDoor.AI

/- Expressions: the check of the whole tree, in the program and in the reference. -/
set_option maxHeartbeats 1000000
set_option maxRecDepth 100000
set_option linter.unusedVariables false
set_option linter.unusedSimpArgs false
set_option linter.unusedSectionVars false
namespace Go.Proofs.YtdnhhdplcminlaaGreatDoor.AI
open Go

mutual
theorem E.ind' {P : E → Prop} (h : ∀ e : E, (∀ x ∈ e.kids, P x) → P e) : ∀ e : E, P e
  | .mk o p n ns a m ks => h _ (E.indL h ks)
theorem E.indL {P : E → Prop} (h : ∀ e : E, (∀ x ∈ e.kids, P x) → P e) : ∀ (l : List E) (x : E), x ∈ l → P x
  | [], x, hx => by cases hx
  | v :: l, x, hx => (List.mem_cons.1 hx).elim (fun e => by rw [e]; exact E.ind' h v) (fun hx => E.indL h l x hx)
end

mutual
/-- The first error, and how many nodes were looked at; level, and the number of nodes before. -/
def chk : E → Nat → Nat → Int × Nat
  | .mk o p nm ns a m ks, level, n =>
    bif decide (level > 16) || decide (n + 1 > 256) then (2, n + 1)
    else bif nodeE (.mk o p nm ns a m ks) != 0 then (nodeE (.mk o p nm ns a m ks), n + 1)
    else chks ks (level + 1) (n + 1)
def chks : List E → Nat → Nat → Int × Nat
  | [], _, n => (0, n)
  | k :: r, level, n => bif (chk k level n).1 != 0 then chk k level n else chks r level (chk k level n).2
end
theorem chk_eq (e : E) (level n : Nat) : chk e level n = bif decide (level > 16) || decide (n + 1 > 256) then (2, n + 1) else bif nodeE e != 0 then (nodeE e, n + 1) else chks e.kids (level + 1) (n + 1) := by
  cases e; rfl
mutual
theorem chk_le : ∀ (e : E) (level n : Nat), n ≤ 256 → (chk e level n).2 ≤ 257 ∧ ((chk e level n).1 = 0 → (chk e level n).2 ≤ 256)
  | .mk o p nm ns a m ks, level, n, hn => by
    rw [chk]
    cases h1 : decide (level > 16) || decide (n + 1 > 256) with
    | true => simp; omega
    | false =>
      have h2 : n + 1 ≤ 256 := by
        simp only [Bool.or_eq_false_iff, decide_eq_false_iff_not] at h1
        omega
      rw [cond_false]
      cases h3 : nodeE (.mk o p nm ns a m ks) != 0 with
      | true => simp; omega
      | false => exact chks_le ks (level + 1) (n + 1) h2
theorem chks_le : ∀ (l : List E) (level n : Nat), n ≤ 256 → (chks l level n).2 ≤ 257 ∧ ((chks l level n).1 = 0 → (chks l level n).2 ≤ 256)
  | [], level, n, hn => by simp [chks]; omega
  | k :: r, level, n, hn => by
    rw [chks]
    have h := chk_le k level n hn
    cases h3 : (chk k level n).1 != 0 with
    | true => exact h
    | false => exact chks_le r level _ (h.2 (by simpa using h3))
end

abbrev H1 (n : Nat) : Heap := [some (.arr [.int .i64 (n : Int)])]

theorem check_loop (e : E) (he : e.Sm) (level : Nat) (hlev : level ≤ 16) (ih : ∀ x ∈ e.kids, ∀ n : Nat, n ≤ 256 → CallT 28 [.agg (cE x), .int .i64 ((level + 1 : Nat) : Int), .ptr 0 0] (H1 n) (.int .i64 (chk x (level + 1) n).1) (H1 (chk x (level + 1) n).2))
    (Q : AV → Heap → Prop) {k : Nat} (hk : k ≤ e.kids.length) : ∀ n : Nat, n ≤ 256 → Q (.int .i64 (chks (e.kids.drop k) (level + 1) n).1) (H1 (chks (e.kids.drop k) (level + 1) n).2) →
      LH ⟨true, 0⟩ 28 8 [.int .i64 (level : Int), .ptr 0 0, .sl false e.kids.length (encEs e.kids), .int .i64 (e.kids.length : Int), .int .i64 (k : Int)] (H1 n) Q := by
  have hl := he.kids
  refine up_to (P := fun k => ∀ n : Nat, n ≤ 256 → Q (.int .i64 (chks (e.kids.drop k) (level + 1) n).1) (H1 (chks (e.kids.drop k) (level + 1) n).2) →
      LH ⟨true, 0⟩ 28 8 [.int .i64 (level : Int), .ptr 0 0, .sl false e.kids.length (encEs e.kids), .int .i64 (e.kids.length : Int), .int .i64 (k : Int)] (H1 n) Q) ?_ ?_ hk
  · intro n hn hq
    refine labelIs ?_
    rw [l28_8]
    have hlt : decide ((e.kids.length : Int) < (e.kids.length : Int)) = false := by simp
    rw [hlt, cond_false]
    rw [List.drop_length] at hq
    exact hq
  · intro k hk ih2 n hn hq
    refine labelIs ?_
    rw [l28_8]
    rw [drop_get hk, chks] at hq
    have hlt : decide ((k : Int) < (e.kids.length : Int)) = true := by simpa using hk
    have hw : IntKind.i64.wrap ((level : Int) + 1) = ((level + 1 : Nat) : Int) := by rw [wrap_of (by omega)]; omega
    rw [hlt, cond_true, Int.toNat_natCast, wrap_of (n := (k : Int) + 1) (by omega), hw]
    refine ⟨by omega, _, _, _, _, _, _, _, _, _, _, _, _, _, _, _, _, seg_E (List.getElem?_eq_getElem hk), _, _, ih _ (List.getElem_mem hk) n hn, ?_⟩
    cases hc : (chk e.kids[k] (level + 1) n).1 != 0 with
    | true =>
      rw [hc] at hq
      exact hq
    | false =>
      rw [hc] at hq
      exact ih2 _ ((chk_le _ _ _ hn).2 (by simpa using hc)) hq

/-- check -/
theorem c28 (W : ValidTold) : ∀ e : E, e.Sm → ∀ level n : Nat, level ≤ 17 → n ≤ 256 → CallT 28 [.agg (cE e), .int .i64 (level : Int), .ptr 0 0] (H1 n) (.int .i64 (chk e level n).1) (H1 (chk e level n).2) := by
  refine E.ind' (fun e ih he level n hlev hn => ?_)
  refine heapIs (M := ⟨true, 0⟩) (by kernel_rfl) ?_
  rw [n28, chk_eq]
  have h0 : holds (H1 n) 0 (n : Int) := rfl
  have hw : IntKind.i64.wrap ((n : Int) + 1) = ((n + 1 : Nat) : Int) := by rw [wrap_of (by omega)]; omega
  refine ⟨_, read_of h0, _, store_of h0, _, fun _ => read_of (holds_set h0), ?_⟩
  rw [hw]
  have e1 : decide ((level : Int) > 16) = decide (level > 16) := by rw [decide_eq_decide]; omega
  have e2 : decide (((n + 1 : Nat) : Int) > 256) = decide (n + 1 > 256) := by rw [decide_eq_decide]; omega
  have a0 : ∀ a b : Bool, (bif a then true else b) = (a || b) := by decide
  rw [e1, e2, a0]
  cases hc : decide (level > 16) || decide (n + 1 > 256) with
  | true => exact ⟨rfl, rfl⟩
  | false =>
    rw [cond_false, cond_false]
    simp only [Bool.or_eq_false_iff, decide_eq_false_iff_not] at hc
    refine ⟨_, pcIs (by kernel_rfl) (by simp) (c52 W e he), ?_⟩
    cases h3 : nodeE e != 0 with
    | true => exact ⟨rfl, rfl⟩
    | false =>
      rw [cond_false, cond_false]
      refine check_loop e he level (by omega) (fun x hx m hm => ih x hx (he.kid hx) (level + 1) m (by omega) hm) _ (Nat.zero_le _) (n + 1) (by omega) ?_
      rw [List.drop_zero]
      exact ⟨rfl, rfl⟩

/-- The first error of an expression, or 0. -/
def validE (e : E) : Int := (chk e 1 0).1
/-- Valid -/
theorem c11 (W : ValidTold) (e : E) (he : e.Sm) : CallT 11 [.agg (cE e)] [] (.int .i64 (validE e)) [] := by
  refine pureIs (M := ⟨false, 0⟩) (by kernel_rfl) (by simp) ?_
  rw [n11]
  exact ⟨_, _, c28 W e he 1 0 (by omega) (by omega), rfl⟩

theorem refcheck_loop (e : E) (he : e.Sm) (level : Nat) (hlev : level ≤ 16) (ih : ∀ x ∈ e.kids, ∀ n : Nat, n ≤ 256 → CallT 29 [.agg (cE x), .int .i64 ((n + 1 : Nat) : Int), .int .i64 ((level + 1 : Nat) : Int)] [] (.tup [.int .i64 (((chk x (level + 1) n).2 : Nat) : Int), .int .i64 (chk x (level + 1) n).1]) [])
    (h : Heap) (Q : AV → Prop) {k : Nat} (hk : k ≤ e.kids.length) : ∀ n : Nat, n ≤ 256 → Q (.tup [.int .i64 (((chks (e.kids.drop k) (level + 1) n).2 : Nat) : Int), .int .i64 (chks (e.kids.drop k) (level + 1) n).1]) →
      LP 29 7 [.int .i64 (n : Int), .int .i64 (level : Int), .box (cE e), .int .i64 (k : Int)] h Q := by
  have hl := he.kids
  refine up_to (P := fun k => ∀ n : Nat, n ≤ 256 → Q (.tup [.int .i64 (((chks (e.kids.drop k) (level + 1) n).2 : Nat) : Int), .int .i64 (chks (e.kids.drop k) (level + 1) n).1]) →
      LP 29 7 [.int .i64 (n : Int), .int .i64 (level : Int), .box (cE e), .int .i64 (k : Int)] h Q) ?_ ?_ hk
  · intro n hn hq
    refine labelIs ?_
    rw [l29_7]
    have hlt : decide ((e.kids.length : Int) < (e.kids.length : Int)) = false := by simp
    rw [hlt, cond_false]
    rw [List.drop_length] at hq
    exact ⟨_, rfl, hq⟩
  · intro k hk ih2 n hn hq
    refine labelIs ?_
    rw [l29_7]
    rw [drop_get hk, chks] at hq
    have hlt : decide ((k : Int) < (e.kids.length : Int)) = true := by simpa using hk
    have hw : IntKind.i64.wrap ((level : Int) + 1) = ((level + 1 : Nat) : Int) := by rw [wrap_of (by omega)]; omega
    have hw2 : IntKind.i64.wrap ((n : Int) + 1) = ((n + 1 : Nat) : Int) := by rw [wrap_of (by omega)]; omega
    rw [hlt, cond_true, Int.toNat_natCast, wrap_of (n := (k : Int) + 1) (by omega), hw, hw2]
    refine ⟨by omega, _, _, _, _, _, _, _, _, _, _, _, _, _, _, _, _, seg_E (List.getElem?_eq_getElem hk), _, _, pcIs (by kernel_rfl) (by simp) (ih _ (List.getElem_mem hk) n hn), ?_⟩
    cases hc : (chk e.kids[k] (level + 1) n).1 != 0 with
    | true =>
      rw [hc] at hq
      exact ⟨_, rfl, hq⟩
    | false =>
      rw [hc] at hq
      exact ih2 _ ((chk_le _ _ _ hn).2 (by simpa using hc)) hq

/-- check (the reference) -/
theorem c29 (U : Utf8Told) : ∀ e : E, e.Sm → ∀ level n : Nat, level ≤ 17 → n ≤ 256 → CallT 29 [.agg (cE e), .int .i64 ((n + 1 : Nat) : Int), .int .i64 (level : Int)] [] (.tup [.int .i64 (((chk e level n).2 : Nat) : Int), .int .i64 (chk e level n).1]) [] := by
  refine E.ind' (fun e ih he level n hlev hn => ?_)
  refine pureIs (M := ⟨false, 0⟩) (by kernel_rfl) (by simp) ?_
  rw [n29, chk_eq]
  have e1 : decide ((level : Int) > 16) = decide (level > 16) := by rw [decide_eq_decide]; omega
  have e2 : decide (((n + 1 : Nat) : Int) > 256) = decide (n + 1 > 256) := by rw [decide_eq_decide]; omega
  have a0 : ∀ a b : Bool, (bif a then true else b) = (a || b) := by decide
  rw [e1, e2, a0]
  cases hc : decide (level > 16) || decide (n + 1 > 256) with
  | true => exact ⟨_, rfl, rfl⟩
  | false =>
    rw [cond_false, cond_false]
    simp only [Bool.or_eq_false_iff, decide_eq_false_iff_not] at hc
    refine ⟨_, pcIs (by kernel_rfl) (by simp) (c53 U e he), ?_⟩
    cases h3 : nodeE e != 0 with
    | true => exact ⟨_, rfl, rfl⟩
    | false =>
      rw [cond_false, cond_false]
      refine refcheck_loop e he level (by omega) (fun x hx m hm => ih x hx (he.kid hx) (level + 1) m (by omega) hm) [] _ (Nat.zero_le _) (n + 1) (by omega) ?_
      rw [List.drop_zero]
/-- Valid (the reference) -/
theorem c12 (U : Utf8Told) (e : E) (he : e.Sm) : CallT 12 [.agg (cE e)] [] (.int .i64 (validE e)) [] := by
  refine pureIs (M := ⟨false, 0⟩) (by kernel_rfl) (by simp) ?_
  rw [n12]
  exact ⟨_, _, pcIs (by kernel_rfl) (by simp) (c29 U e he 1 0 (by omega) (by omega)), rfl⟩
end Go.Proofs.YtdnhhdplcminlaaGreatDoor.AI

/- Values: small enough; copies. -/
set_option maxHeartbeats 1000000
set_option maxRecDepth 100000
set_option linter.unusedVariables false
set_option linter.unusedSimpArgs false
set_option linter.unusedSectionVars false
namespace Go.Proofs.YtdnhhdplcminlaaGreatDoor.AI
open Go

mutual
/-- A look at all values below, level by level, with a count. -/
def sml : V → Nat → Nat → Bool × Nat
  | .mk _ _ _ l d, level, n =>
    bif decide (level > 16) || decide (n + 1 > 1024) then (false, n + 1)
    else bif !(smls l (level + 1) (n + 1)).1 then (false, (smls l (level + 1) (n + 1)).2)
    else smlFs d (level + 1) (smls l (level + 1) (n + 1)).2
def smls : List V → Nat → Nat → Bool × Nat
  | [], _, n => (true, n)
  | v :: r, level, n => bif !(sml v level n).1 then (false, (sml v level n).2) else smls r level (sml v level n).2
def smlFs : List F → Nat → Nat → Bool × Nat
  | [], _, n => (true, n)
  | f :: r, level, n => bif !(smlF f level n).1 then (false, (smlF f level n).2) else smlFs r level (smlF f level n).2
def smlF : F → Nat → Nat → Bool × Nat
  | .mk _ v, level, n => sml v level n
end
theorem sml_eq (v : V) (level n : Nat) : sml v level n = bif decide (level > 16) || decide (n + 1 > 1024) then (false, n + 1) else bif !(smls v.list (level + 1) (n + 1)).1 then (false, (smls v.list (level + 1) (n + 1)).2) else smlFs v.doc (level + 1) (smls v.list (level + 1) (n + 1)).2 := by
  cases v; rfl
theorem smlFs_cons (f : F) (r : List F) (level n : Nat) : smlFs (f :: r) level n = bif !(sml f.value level n).1 then (false, (sml f.value level n).2) else smlFs r level (sml f.value level n).2 := by
  cases f; rfl

mutual
theorem sml_le : ∀ (v : V) (level n : Nat), n ≤ 1024 → ((sml v level n).1 = true → (sml v level n).2 ≤ 1024)
  | .mk k i t l d, level, n, hn => by
    rw [sml]
    cases h1 : decide (level > 16) || decide (n + 1 > 1024) with
    | true => intro h; cases h
    | false =>
      have h2 : n + 1 ≤ 1024 := by
        simp only [Bool.or_eq_false_iff, decide_eq_false_iff_not] at h1
        omega
      rw [cond_false]
      cases h3 : (smls l (level + 1) (n + 1)).1 with
      | false => intro h; cases h
      | true =>
        rw [Bool.not_true, cond_false]
        exact smlFs_le d _ _ (smls_le l _ _ h2 h3)
theorem smls_le : ∀ (l : List V) (level n : Nat), n ≤ 1024 → ((smls l level n).1 = true → (smls l level n).2 ≤ 1024)
  | [], level, n, hn => fun _ => hn
  | v :: r, level, n, hn => by
    rw [smls]
    cases h3 : (sml v level n).1 with
    | false => intro h; cases h
    | true =>
      rw [Bool.not_true, cond_false]
      exact smls_le r _ _ (sml_le v _ _ hn h3)
theorem smlFs_le : ∀ (l : List F) (level n : Nat), n ≤ 1024 → ((smlFs l level n).1 = true → (smlFs l level n).2 ≤ 1024)
  | [], level, n, hn => fun _ => hn
  | .mk nm v :: r, level, n, hn => by
    rw [smlFs, smlF]
    cases h3 : (sml v level n).1 with
    | false => intro h; cases h
    | true =>
      rw [Bool.not_true, cond_false]
      exact smlFs_le r _ _ (sml_le v _ _ hn h3)
end

theorem small_docs (v : V) (hv : v.Sm) (level : Nat) (hlev : level ≤ 16) (ih : ∀ f ∈ v.doc, ∀ n : Nat, n ≤ 1024 → CallT 49 [.agg (cV f.value), .int .i64 ((level + 1 : Nat) : Int), .ptr 0 0] (H1 n) (.bool (sml f.value (level + 1) n).1) (H1 (sml f.value (level + 1) n).2))
    (Q : AV → Heap → Prop) {k : Nat} (hk : k ≤ v.doc.length) : ∀ n : Nat, n ≤ 1024 → Q (.bool (smlFs (v.doc.drop k) (level + 1) n).1) (H1 (smlFs (v.doc.drop k) (level + 1) n).2) →
      LH ⟨true, 0⟩ 49 11 [.int .i64 (level : Int), .ptr 0 0, .sl false v.doc.length (encFs v.doc), .int .i64 (v.doc.length : Int), .int .i64 (k : Int)] (H1 n) Q := by
  have hl := hv.doc
  refine up_to (P := fun k => ∀ n : Nat, n ≤ 1024 → Q (.bool (smlFs (v.doc.drop k) (level + 1) n).1) (H1 (smlFs (v.doc.drop k) (level + 1) n).2) →
      LH ⟨true, 0⟩ 49 11 [.int .i64 (level : Int), .ptr 0 0, .sl false v.doc.length (encFs v.doc), .int .i64 (v.doc.length : Int), .int .i64 (k : Int)] (H1 n) Q) ?_ ?_ hk
  · intro n hn hq
    refine labelIs ?_
    rw [l49_11]
    have hlt : decide ((v.doc.length : Int) < (v.doc.length : Int)) = false := by simp
    rw [hlt, cond_false]
    rw [List.drop_length] at hq
    exact hq
  · intro k hk ih2 n hn hq
    refine labelIs ?_
    rw [l49_11]
    rw [drop_get hk, smlFs_cons] at hq
    have hlt : decide ((k : Int) < (v.doc.length : Int)) = true := by simpa using hk
    have hw : IntKind.i64.wrap ((level : Int) + 1) = ((level + 1 : Nat) : Int) := by rw [wrap_of (by omega)]; omega
    rw [hlt, cond_true, Int.toNat_natCast, wrap_of (n := (k : Int) + 1) (by omega), hw]
    refine ⟨by omega, _, _, _, _, _, _, _, _, seg_F (List.getElem?_eq_getElem hk), _, _, ih _ (List.getElem_mem hk) n hn, ?_⟩
    cases hc : (sml v.doc[k].value (level + 1) n).1 with
    | false =>
      rw [hc] at hq
      exact hq
    | true =>
      rw [hc] at hq
      exact ih2 _ (sml_le _ _ _ hn hc) hq

theorem small_lists (v : V) (hv : v.Sm) (level : Nat) (hlev : level ≤ 16) (ih : ∀ x ∈ v.list, ∀ n : Nat, n ≤ 1024 → CallT 49 [.agg (cV x), .int .i64 ((level + 1 : Nat) : Int), .ptr 0 0] (H1 n) (.bool (sml x (level + 1) n).1) (H1 (sml x (level + 1) n).2))
    (ihd : ∀ f ∈ v.doc, ∀ n : Nat, n ≤ 1024 → CallT 49 [.agg (cV f.value), .int .i64 ((level + 1 : Nat) : Int), .ptr 0 0] (H1 n) (.bool (sml f.value (level + 1) n).1) (H1 (sml f.value (level + 1) n).2))
    (Q : AV → Heap → Prop) {k : Nat} (hk : k ≤ v.list.length) : ∀ n : Nat, n ≤ 1024 →
      ((smls (v.list.drop k) (level + 1) n).1 = false → Q (.bool false) (H1 (smls (v.list.drop k) (level + 1) n).2)) →
      ((smls (v.list.drop k) (level + 1) n).1 = true → Q (.bool (smlFs v.doc (level + 1) (smls (v.list.drop k) (level + 1) n).2).1) (H1 (smlFs v.doc (level + 1) (smls (v.list.drop k) (level + 1) n).2).2)) →
      LH ⟨true, 0⟩ 49 5 [.int .i64 (level : Int), .ptr 0 0, .box (cV v), .sl false v.list.length (encVs v.list), .int .i64 (v.list.length : Int), .int .i64 (k : Int)] (H1 n) Q := by
  have hl := hv.list
  refine up_to (P := fun k => ∀ n : Nat, n ≤ 1024 →
      ((smls (v.list.drop k) (level + 1) n).1 = false → Q (.bool false) (H1 (smls (v.list.drop k) (level + 1) n).2)) →
      ((smls (v.list.drop k) (level + 1) n).1 = true → Q (.bool (smlFs v.doc (level + 1) (smls (v.list.drop k) (level + 1) n).2).1) (H1 (smlFs v.doc (level + 1) (smls (v.list.drop k) (level + 1) n).2).2)) →
      LH ⟨true, 0⟩ 49 5 [.int .i64 (level : Int), .ptr 0 0, .box (cV v), .sl false v.list.length (encVs v.list), .int .i64 (v.list.length : Int), .int .i64 (k : Int)] (H1 n) Q) ?_ ?_ hk
  · intro n hn h1 h2
    refine labelIs ?_
    rw [l49_5]
    have hlt : decide ((v.list.length : Int) < (v.list.length : Int)) = false := by simp
    rw [hlt, cond_false]
    rw [List.drop_length] at h2
    exact small_docs v hv level hlev ihd Q (Nat.zero_le _) n hn (by rw [List.drop_zero]; exact h2 rfl)
  · intro k hk ih2 n hn h1 h2
    refine labelIs ?_
    rw [l49_5]
    rw [drop_get hk, smls] at h1 h2
    have hlt : decide ((k : Int) < (v.list.length : Int)) = true := by simpa using hk
    have hw : IntKind.i64.wrap ((level : Int) + 1) = ((level + 1 : Nat) : Int) := by rw [wrap_of (by omega)]; omega
    rw [hlt, cond_true, Int.toNat_natCast, wrap_of (n := (k : Int) + 1) (by omega), hw]
    refine ⟨by omega, _, _, _, _, _, _, _, seg_V (List.getElem?_eq_getElem hk), _, _, ih _ (List.getElem_mem hk) n hn, ?_⟩
    cases hc : (sml v.list[k] (level + 1) n).1 with
    | false =>
      rw [hc] at h1
      exact h1 rfl
    | true =>
      rw [hc] at h1 h2
      exact ih2 _ (sml_le _ _ _ hn hc) h1 h2

/-- small -/
theorem c49 : ∀ v : V, v.Sm → ∀ level n : Nat, level ≤ 17 → n ≤ 1024 → CallT 49 [.agg (cV v), .int .i64 (level : Int), .ptr 0 0] (H1 n) (.bool (sml v level n).1) (H1 (sml v level n).2) := by
  refine V.ind' (fun v ihl ihd hv level n hlev hn => ?_)
  refine heapIs (M := ⟨true, 0⟩) (by kernel_rfl) ?_
  rw [n49, sml_eq]
  have h0 : holds (H1 n) 0 (n : Int) := rfl
  have hw : IntKind.i64.wrap ((n : Int) + 1) = ((n + 1 : Nat) : Int) := by rw [wrap_of (by omega)]; omega
  refine ⟨_, read_of h0, _, store_of h0, _, fun _ => read_of (holds_set h0), ?_⟩
  rw [hw]
  have e1 : decide ((level : Int) > 16) = decide (level > 16) := by rw [decide_eq_decide]; omega
  have e2 : decide (((n + 1 : Nat) : Int) > 1024) = decide (n + 1 > 1024) := by rw [decide_eq_decide]; omega
  have a0 : ∀ a b : Bool, (bif a then true else b) = (a || b) := by decide
  rw [e1, e2, a0]
  cases hc : decide (level > 16) || decide (n + 1 > 1024) with
  | true => exact ⟨rfl, rfl⟩
  | false =>
    rw [cond_false, cond_false]
    simp only [Bool.or_eq_false_iff, decide_eq_false_iff_not] at hc
    refine small_lists v hv level (by omega) (fun x hx m hm => ihl x hx (hv.elem hx) (level + 1) m (by omega) hm) (fun f hf m hm => ihd f hf (hv.field hf).value (level + 1) m (by omega) hm) _ (Nat.zero_le _) (n + 1) (by omega) (fun h => ?_) (fun h => ?_)
    · rw [List.drop_zero] at h ⊢
      rw [h]
      exact ⟨rfl, rfl⟩
    · rw [List.drop_zero] at h ⊢
      rw [h]
      exact ⟨rfl, rfl⟩

/-- A copy of a slice, to a row that is then written. -/
theorem callClone {f sz n : Nat} {cs : List AV} {h : Heap} (hp : cfg.prim f = none) (hu : cfg.pure f = false) (hh : cfg.hprim f = some (hCloneV sz)) (hl : cs.length = n * sz) (hn : n ≤ 1073741824) :
    (n = 0 → CallT f [.sl false n cs] h (.ms 0 0 0 0) h) ∧ (0 < n → CallT f [.sl false n cs] h (.ms h.length 0 n cs.length) (h ++ [some (.arr cs)])) := by
  constructor
  · intro h0
    refine Evt.of fun m => ?_
    simp [callerOf, hp, hu, hh, hCloneV, h0]
  · intro h0
    refine Evt.of fun m => ?_
    have : n ≠ 0 := by omega
    simp only [callerOf, hp, hu, hh, hCloneV, Bool.false_eq_true, if_false, this]
    rw [if_pos ⟨hl, hn⟩]

/-- Where a copy lies: nowhere, if it is empty. -/
def rowAt (id n : Nat) (cs : List AV) : AV := .ms (if n = 0 then 0 else id) 0 n (if n = 0 then 0 else cs.length)
theorem callClone' {f sz n : Nat} {cs : List AV} {h : Heap} (hp : cfg.prim f = none) (hu : cfg.pure f = false) (hh : cfg.hprim f = some (hCloneV sz)) (hl : cs.length = n * sz) (hn : n ≤ 1073741824) :
    CallT f [.sl false n cs] h (.ms (if n = 0 then 0 else h.length) 0 n (if n = 0 then 0 else cs.length)) (if n = 0 then h else h ++ [some (.arr cs)]) := by
  obtain ⟨h1, h2⟩ := callClone (h := h) hp hu hh hl hn
  by_cases h0 : n = 0
  · subst h0; simpa using h1 rfl
  · simpa [h0] using h2 (by omega)

theorem splice_same {cs ys : List AV} {off : Nat} (h : seg cs off ys.length = some ys) : splice cs off ys = some cs := by
  unfold seg at h
  split at h <;> try cases h
  rename_i hle
  unfold splice
  rw [if_pos hle]
  have : ys = (cs.drop off).take ys.length := by simpa using h.symm
  congr 1
  have h3 : cs.drop (off + ys.length) = (cs.drop off).drop ys.length := by rw [List.drop_drop]
  rw [h3]
  conv => lhs; lhs; rhs; rw [this]
  rw [List.append_assoc, List.take_append_drop, List.take_append_drop]

theorem denil_cV (v : V) : (cV v).map denil = cV v := rfl

/-- A heap that holds a row at a place. -/
def hasRow (h : Heap) (id : Nat) (cs : List AV) : Prop := h[id]? = some (some (.arr cs))
theorem read_row {h : Heap} {id : Nat} {cs ys : List AV} {off n : Nat} (hh : hasRow h id cs) (hs : seg cs off n = some ys) : readP Env.empty h (.ptr id off) n = some ys := by
  unfold hasRow at hh
  simp [readP, hh, hs]
theorem set_same {α : Type} {l : List α} {i : Nat} {x : α} (h : l[i]? = some x) : l.set i x = l := by
  obtain ⟨h1, h2⟩ := List.getElem?_eq_some_iff.1 h
  rw [← h2]
  exact List.set_getElem_self h1
theorem store_row {h : Heap} {id : Nat} {cs : List AV} {off : Nat} {v : V} (hh : hasRow h id cs) (hs : seg cs off 5 = some (cV v)) : aStore Tryz.prog Env.empty h 26 (.ptr id off) (.agg (cV v)) = some (.heap h .undef) := by
  unfold hasRow at hh
  have hz : szOf Tryz.prog 26 = some 5 := by kernel_rfl
  have hsp : splice cs off ((cV v).map denil) = some cs := by rw [denil_cV]; exact splice_same hs
  simp only [aStore, hz, cellsOf, solid, hh, hsp, Option.map_some, set_same hh]
  rfl

theorem resH_row {h : Heap} {k id : Nat} {cs : List AV} (hh : hasRow h id cs) (hc : Cn cs) : resH h (k + 1) id 0 cs.length = some cs := by
  unfold hasRow at hh
  simp only [resH, hh]
  have : seg cs 0 cs.length = some cs := by simp [seg]
  rw [this]
  exact monoL cs cs hc

abbrev M2 : Mode := ⟨true, 2⟩

theorem er_ms {h : Heap} {id n : Nat} {cs : List AV} (hh : 0 < n → hasRow h id cs) (hl : n = 0 → cs = []) (hl2 : 0 < n → 0 < cs.length) (hc : Cn cs) : eraseW false (resH h 8) (.ms (if n = 0 then 0 else id) 0 n (if n = 0 then 0 else cs.length)) = some (.sl false n cs) := by
  by_cases h0 : n = 0
  · simp [h0, eraseW, hl h0]
  · have hpos : cs.length ≠ 0 := by have := hl2 (by omega); omega
    simp only [if_neg h0, eraseW, if_neg hpos, resH_row (hh (by omega)) hc, Option.map_some]
end Go.Proofs.YtdnhhdplcminlaaGreatDoor.AI

/- Copies of values. -/
set_option maxHeartbeats 1000000
set_option maxRecDepth 100000
set_option linter.unusedVariables false
set_option linter.unusedSimpArgs false
set_option linter.unusedSectionVars false
namespace Go.Proofs.YtdnhhdplcminlaaGreatDoor.AI
open Go

abbrev LM (f r : Nat) (vals : List AV) (h : Heap) (Q : AV → Prop) : Prop := LabelP Tryz.prog cfg ⟨true, 2⟩ f r vals h (retE Q)
abbrev zeroBox : AV := .box [.int .i64 0, .int .i64 0, .str [], .tk 0 0 [], .tk 0 0 []]
abbrev msOf (id n w : Nat) : AV := .ms (if n = 0 then 0 else id) 0 n (if n = 0 then 0 else w)

theorem clone_docs (v : V) (hv : v.Sm) (ih : ∀ f ∈ v.doc, CallT 45 [.agg (cV f.value)] [] (.agg (cV f.value)) []) (h : Heap) (id1 id2 : Nat) (h1 : 0 < v.list.length → hasRow h id1 (encVs v.list)) (h2 : 0 < v.doc.length → hasRow h id2 (encFs v.doc))
    (Q : AV → Prop) (hq : Q (.agg (cV v))) {k : Nat} (hk : k ≤ v.doc.length) :
    LM 45 9 [.box [.int .i64 v.kind, .int .i64 v.int, .str v.text, msOf id1 v.list.length (encVs v.list).length, msOf id2 v.doc.length (encFs v.doc).length], zeroBox, .int .i64 (v.doc.length : Int), .int .i64 (k : Int)] h Q := by
  have hl := hv.doc
  refine up_to (P := fun k => LM 45 9 [.box [.int .i64 v.kind, .int .i64 v.int, .str v.text, msOf id1 v.list.length (encVs v.list).length, msOf id2 v.doc.length (encFs v.doc).length], zeroBox, .int .i64 (v.doc.length : Int), .int .i64 (k : Int)] h Q) ?_ ?_ hk
  · refine labelIs ?_
    rw [l45_9]
    have hlt : decide ((v.doc.length : Int) < (v.doc.length : Int)) = false := by simp
    rw [hlt, cond_false]
    have e1 := er_ms (h := h) (id := id1) (n := v.list.length) (cs := encVs v.list) h1 (fun h0 => by rw [List.eq_nil_of_length_eq_zero h0]; rfl) (fun h0 => by simp; omega) (by simp)
    have e2 := er_ms (h := h) (id := id2) (n := v.doc.length) (cs := encFs v.doc) h2 (fun h0 => by rw [List.eq_nil_of_length_eq_zero h0]; rfl) (fun h0 => by simp; omega) (by simp)
    refine ⟨.agg (cV v), ?_, hq⟩
    rw [eraseW]
    simp only [eraseL, e1, e2]
    rfl
  · intro k hk ih2
    have hpos : v.doc.length ≠ 0 := by omega
    refine labelIs ?_
    rw [l45_9]
    have hlt : decide ((k : Int) < (v.doc.length : Int)) = true := by simpa using hk
    have hw : (0 : Nat) < (if v.doc.length = 0 then 0 else (encFs v.doc).length) := by rw [if_neg hpos]; simp; omega
    rw [hlt, cond_true, Int.toNat_natCast, wrap_of (by omega)]
    have hseg : seg (encFs v.doc) (0 + k * 6 + 1) 5 = some (cV v.doc[k].value) := by rw [Nat.zero_add]; exact seg_Fv (List.getElem?_eq_getElem hk)
    have hrow : hasRow h (if v.doc.length = 0 then 0 else id2) (encFs v.doc) := by rw [if_neg hpos]; exact h2 (by omega)
    refine ⟨⟨by omega, by omega, hw⟩, _, _, _, _, _, _, _, read_row hrow hseg, _, _, _, _, _, _, _, pcIs (by kernel_rfl) (by simp) (ih _ (List.getElem_mem hk)), ⟨by omega, by omega, hw⟩, h, store_row hrow hseg, ?_⟩
    exact ih2

theorem clone_lists (v : V) (hv : v.Sm) (ih : ∀ x ∈ v.list, CallT 45 [.agg (cV x)] [] (.agg (cV x)) []) (ihd : ∀ f ∈ v.doc, CallT 45 [.agg (cV f.value)] [] (.agg (cV f.value)) []) (h : Heap) (id1 : Nat) (h1 : 0 < v.list.length → hasRow h id1 (encVs v.list))
    (Q : AV → Prop) (hq : Q (.agg (cV v))) {k : Nat} (hk : k ≤ v.list.length) :
    LM 45 3 [.box [.int .i64 v.kind, .int .i64 v.int, .str v.text, msOf id1 v.list.length (encVs v.list).length, .sl false v.doc.length (encFs v.doc)], zeroBox, .int .i64 (v.list.length : Int), .int .i64 (k : Int)] h Q := by
  have hl := hv.list
  have hd := hv.doc
  refine up_to (P := fun k => LM 45 3 [.box [.int .i64 v.kind, .int .i64 v.int, .str v.text, msOf id1 v.list.length (encVs v.list).length, .sl false v.doc.length (encFs v.doc)], zeroBox, .int .i64 (v.list.length : Int), .int .i64 (k : Int)] h Q) ?_ ?_ hk
  · refine labelIs ?_
    rw [l45_3]
    have hlt : decide ((v.list.length : Int) < (v.list.length : Int)) = false := by simp
    rw [hlt, cond_false]
    refine ⟨_, _, _, _, _, callClone' (sz := 6) (by kernel_rfl) (by kernel_rfl) (by kernel_rfl) (by simp) (by omega), ?_⟩
    refine clone_docs v hv ihd _ id1 h.length (fun h0 => ?_) (fun h0 => ?_) Q hq (Nat.zero_le _)
    · have := h1 h0
      unfold hasRow at this ⊢
      split
      · exact this
      · rw [List.getElem?_append_left (List.getElem?_eq_some_iff.1 this).1]; exact this
    · rw [if_neg (by omega)]
      simp [hasRow]
  · intro k hk ih2
    have hpos : v.list.length ≠ 0 := by omega
    refine labelIs ?_
    rw [l45_3]
    have hlt : decide ((k : Int) < (v.list.length : Int)) = true := by simpa using hk
    have hw : (0 : Nat) < (if v.list.length = 0 then 0 else (encVs v.list).length) := by rw [if_neg hpos]; simp; omega
    rw [hlt, cond_true, Int.toNat_natCast, wrap_of (by omega)]
    have hseg : seg (encVs v.list) (0 + k * 5) 5 = some (cV v.list[k]) := by rw [Nat.zero_add]; exact seg_V (List.getElem?_eq_getElem hk)
    have hrow : hasRow h (if v.list.length = 0 then 0 else id1) (encVs v.list) := by rw [if_neg hpos]; exact h1 (by omega)
    refine ⟨⟨by omega, by omega, hw⟩, _, _, _, _, _, _, _, read_row hrow hseg, _, _, _, _, _, _, _, pcIs (by kernel_rfl) (by simp) (ih _ (List.getElem_mem hk)), ⟨by omega, by omega, hw⟩, h, store_row hrow hseg, ?_⟩
    exact ih2

/-- clone -/
theorem c45 : ∀ v : V, v.Sm → CallT 45 [.agg (cV v)] [] (.agg (cV v)) [] := by
  refine V.ind' (fun v ihl ihd hv => ?_)
  refine pureIs (M := ⟨true, 2⟩) (by kernel_rfl) (by simp) ?_
  have hl := hv.list
  rw [n45]
  refine ⟨_, _, _, _, _, callClone' (sz := 5) (by kernel_rfl) (by kernel_rfl) (by kernel_rfl) (by simp) (by omega), ?_⟩
  have := clone_lists v hv (fun x hx => ihl x hx (hv.elem hx)) (fun f hf => ihd f hf (hv.field hf).value) (if v.list.length = 0 then [] else [] ++ [some (.arr (encVs v.list))]) ([] : Heap).length (fun h0 => by rw [if_neg (by omega)]; simp [hasRow]) (fun x => x = .agg (cV v)) rfl (Nat.zero_le _)
  exact this
end Go.Proofs.YtdnhhdplcminlaaGreatDoor.AI

/- Texts, lists, words: what the small makers hand back. -/
set_option maxHeartbeats 1000000
set_option maxRecDepth 100000
set_option linter.unusedVariables false
set_option linter.unusedSimpArgs false
set_option linter.unusedSectionVars false
namespace Go.Proofs.YtdnhhdplcminlaaGreatDoor.AI
open Go

section
variable {R : Nat → Nat → Nat → Option (List AV)}
@[simp] theorem erVs (l : List V) : eraseL false R (encVs l) = some (encVs l) := monoL _ _ (Cn_encVs l)
@[simp] theorem erFs (l : List F) : eraseL false R (encFs l) = some (encFs l) := monoL _ _ (Cn_encFs l)
@[simp] theorem erEs (l : List E) : eraseL false R (encEs l) = some (encEs l) := monoL _ _ (Cn_encEs l)
@[simp] theorem erS (l : List Str) : eraseL false R (encS l) = some (encS l) := monoL _ _ (Cn_encS l)
theorem er_cn {w : AV} (h : CnW w) : eraseW false R w = some w := monoW w w h
end

def V.text' (s : Str) : V := .mk 4 0 s [] []
def V.list' (l : List V) : V := .mk 6 0 [] l []
def V.doc' (d : List F) : V := .mk 5 0 [] [] d
/-- A document with one field. -/
def V.one (n : Str) (v : V) : V := V.doc' [.mk n v]

/-- text, Text -/
theorem c76 (s : Str) : CallT 76 [.str s] [] (.agg (cV (V.text' s))) [] := by
  refine pureIs (M := ⟨false, 0⟩) (by kernel_rfl) (by simp) ?_
  rw [n76]
  exact ⟨_, rfl, rfl⟩
theorem c26 (s : Str) : CallT 26 [.str s] [] (.agg (cV (V.text' s))) [] := by
  refine pureIs (M := ⟨false, 0⟩) (by kernel_rfl) (by simp) ?_
  rw [n26]
  exact ⟨_, rfl, rfl⟩
/-- list, List -/
theorem c75 (l : List V) : CallT 75 [.sl false l.length (encVs l)] [] (.agg (cV (V.list' l))) [] := by
  refine pureIs (M := ⟨false, 0⟩) (by kernel_rfl) (by simp) ?_
  rw [n75]
  refine ⟨.agg (cV (V.list' l)), ?_, rfl⟩
  simp only [eraseW, eraseL, erVs, Option.map_some]
  rfl
theorem c25 (l : List V) : CallT 25 [.sl false l.length (encVs l)] [] (.agg (cV (V.list' l))) [] := by
  refine pureIs (M := ⟨false, 0⟩) (by kernel_rfl) (by simp) ?_
  rw [n25]
  refine ⟨.agg (cV (V.list' l)), ?_, rfl⟩
  simp only [eraseW, eraseL, erVs, Option.map_some]
  rfl
/-- one (the reference) -/
theorem c77 (n : Str) (v : V) : CallT 77 [.str n, .agg (cV v)] [] (.agg (cV (V.one n v))) [] := by
  refine pureIs (M := ⟨false, 0⟩) (by kernel_rfl) (by simp) ?_
  rw [n77]
  refine ⟨.agg (cV (V.one n v)), ?_, rfl⟩
  simp only [eraseW, eraseL, erVs, erFs, Option.map_some]
  have : encFs [F.mk n v] = cF (F.mk n v) := encFs_one _
  show _ = some (AV.agg [.int .i64 5, .int .i64 0, .str [], .sl false 0 [], .sl false 1 (encFs [F.mk n v])])
  rw [this]
  rfl

/-- Word (the reference) -/
def wordS (op : Int) : Str := bif op == (1 : Int) then [36, 118, 97, 108, 117, 101] else bif op == (4 : Int) then [36, 97, 100, 100] else bif op == (5 : Int) then [36, 115, 117, 98] else bif op == (6 : Int) then [36, 109, 117, 108] else bif op == (7 : Int) then [36, 100, 105, 118] else bif op == (8 : Int) then [36, 109, 111, 100] else bif op == (9 : Int) then [36, 99, 109, 112] else bif op == (10 : Int) then [36, 101, 113] else bif op == (11 : Int) then [36, 110, 101] else bif op == (12 : Int) then [36, 103, 116] else bif op == (13 : Int) then [36, 103, 101] else bif op == (14 : Int) then [36, 108, 116] else bif op == (15 : Int) then [36, 108, 101] else bif op == (16 : Int) then [36, 97, 110, 100] else bif op == (17 : Int) then [36, 111, 114] else bif op == (18 : Int) then [36, 110, 111, 116] else bif op == (19 : Int) then [36, 105, 102] else bif op == (20 : Int) then [36, 105, 102, 78, 117, 108, 108] else bif op == (21 : Int) then [36, 99, 111, 110, 99, 97, 116] else bif op == (22 : Int) then [36, 108, 111, 119, 101, 114] else bif op == (23 : Int) then [36, 117, 112, 112, 101, 114] else bif op == (24 : Int) then [36, 108, 101, 110, 103, 116, 104] else bif op == (25 : Int) then [36, 115, 108, 105, 99, 101] else bif op == (26 : Int) then [36, 115, 105, 122, 101] else bif op == (27 : Int) then [36, 97, 116] else bif op == (28 : Int) then [36, 105, 110] else bif op == (29 : Int) then [36, 106, 111, 105, 110] else bif op == (30 : Int) then [36, 114, 101, 118, 101, 114, 115, 101] else bif op == (31 : Int) then [36, 115, 117, 109] else bif op == (32 : Int) then [36, 109, 97, 112] else bif op == (33 : Int) then [36, 102, 105, 108, 116, 101, 114] else bif op == (36 : Int) then [36, 107, 105, 110, 100] else bif op == (37 : Int) then [36, 109, 101, 114, 103, 101] else []
theorem c78 (op : Int) : CallT 78 [.int .i64 op] [] (.str (wordS op)) [] := by
  refine pureIs (M := ⟨false, 0⟩) (by kernel_rfl) (by simp) ?_
  rw [n78]
  unfold wordS
  repeat' (first | rfl | (generalize hb : ((op == _) : Bool) = b; cases b))
theorem word_name {k : Nat} (h : 1 ≤ k) (h2 : k < 38) : wordS k = opName k := cases37 h h2 (p := fun k => wordS k = opName k) (by decide)

def prefixB (s t : Str) : Bool := decide (t.length ≤ s.length) && (s.take t.length == t)
theorem c108 (s t : Str) : CallT 108 [.str s, .str t] [] (.bool (prefixB s t)) [] := by
  refine pureIs (M := ⟨false, 0⟩) (by kernel_rfl) (by simp) ?_
  rw [n108]
  have e : decide ((s.length : Int) ≥ (t.length : Int)) = decide (t.length ≤ s.length) := by rw [decide_eq_decide]; omega
  rw [e]
  refine ⟨fun h => ⟨?_, trivial⟩, ?_⟩
  · have : t.length ≤ s.length := by simpa using h
    omega
  · rw [Int.toNat_natCast, List.drop_zero, Nat.sub_zero]
    unfold prefixB
    cases decide (t.length ≤ s.length) <;> rfl
/-- strings.HasPrefix -/
theorem c63 (s t : Str) : CallT 63 [.str s, .str t] [] (.bool (prefixB s t)) [] := by
  refine pureIs (M := ⟨false, 0⟩) (by kernel_rfl) (by simp) ?_
  rw [n63]
  exact ⟨_, pcIs (by kernel_rfl) (by simp) (c108 s t), rfl⟩

theorem strs_enc (l : List Str) : strsOf (encS l) = some l := by
  induction l with
  | nil => rfl
  | cons s l ih =>
    show (match strsOf (encS l) with | some r => some (s :: r) | none => none) = _
    rw [ih]
/-- strings.Join -/
theorem c58 (l : List Str) (sep : Str) (hl : l.length ≤ 536870912) (h : (joinB sep l).length ≤ 140737488355328) : CallT 58 [.sl false l.length (encS l), .str sep] [] (.str (joinB sep l)) [] := by
  refine Evt.of fun m => ?_
  have hp : cfg.prim 58 = some pJoin := by kernel_rfl
  have he : eraseL false noRes [.sl false l.length (encS l), .str sep] = some [.sl false l.length (encS l), .str sep] := by
    have : Cn [.sl false l.length (encS l), .str sep] := by simp
    exact this
  simp only [callerOf, hp, he]
  have : pJoin [.sl false l.length (encS l), .str sep] = some (.str (joinB sep l)) := by
    simp only [pJoin, encS_length, if_true, strs_enc, Option.bind_some]
    rw [if_pos ⟨h, by omega⟩]
  rw [this]
  rfl

theorem joinB_len (sep : Str) : ∀ l : List Str, (∀ s ∈ l, s.length ≤ 536870912) → (joinB sep l).length ≤ l.length * (536870912 + sep.length)
  | [], _ => by simp [joinB]
  | [s], h => by
    have := h s (by simp)
    simp [joinB]
    omega
  | s :: t :: l, h => by
    have h1 := h s (by simp)
    have h2 := joinB_len sep (t :: l) (fun x hx => h x (by simp [hx]))
    rw [joinB]
    · simp only [List.length_append, List.length_cons] at h2 ⊢
      rw [Nat.succ_mul (l.length + 1)]
      omega
    · simp
theorem joinB_cons (sep s : Str) {l : List Str} (h : l ≠ []) : joinB sep (s :: l) = s ++ sep ++ joinB sep l := by
  cases l with
  | nil => exact absurd rfl h
  | cons t l => rw [joinB]; simp

theorem joinB_snoc (sep x : Str) : ∀ l : List Str, l ≠ [] → joinB sep (l ++ [x]) = joinB sep l ++ sep ++ x
  | [], h => absurd rfl h
  | [s], _ => by simp [joinB]
  | s :: t :: l, _ => by
    have ih := joinB_snoc sep x (t :: l) (by simp)
    show joinB sep (s :: ((t :: l) ++ [x])) = _
    rw [joinB_cons sep s (by simp), ih, joinB_cons sep s (by simp)]
    simp

/-- path.Text -/
theorem c36 (p : List Str) (hs : p.length ≤ 536870912) (h : (joinB [46] p).length ≤ 140737488355328) : CallT 36 [.sl false p.length (encS p)] [] (.str (joinB [46] p)) [] := by
  refine pureIs (M := ⟨false, 0⟩) (by kernel_rfl) (by simp) ?_
  rw [n36]
  exact ⟨_, pcIs (by kernel_rfl) (by simp) (c58 p [46] hs h), rfl⟩

theorem reftext_loop (p : List Str) (hs : SsSm p) (h : Heap) (Q : AV → Prop) {k : Nat} (hk : k ≤ p.length) : Q (.str (joinB [46] p)) → LP 59 3 [.sl false p.length (encS p), .str (joinB [46] (p.take k)), .int .i64 (k : Int)] h Q := by
  have hl := hs.1
  have bound : ∀ j, (joinB [46] (p.take j)).length ≤ 536870912 * 536870913 := by
    intro j
    have h1 := joinB_len [46] (p.take j) (fun s hx => hs.2 s (List.mem_of_mem_take hx))
    have h2 : (p.take j).length ≤ 536870912 := by simp; omega
    have h3 : (p.take j).length * (536870912 + [(46 : UInt8)].length) ≤ 536870912 * 536870913 := Nat.mul_le_mul_right _ h2
    exact Nat.le_trans h1 h3
  refine up_to (P := fun k => Q (.str (joinB [46] p)) → LP 59 3 [.sl false p.length (encS p), .str (joinB [46] (p.take k)), .int .i64 (k : Int)] h Q) ?_ ?_ hk
  · intro hq
    refine labelIs ?_
    rw [l59_3]
    have hlt : decide ((p.length : Int) < (p.length : Int)) = false := by simp
    rw [hlt, cond_false, List.take_length]
    exact hq
  · intro k hk ih hq
    refine labelIs ?_
    rw [l59_3]
    have hlt : decide ((k : Int) < (p.length : Int)) = true := by simpa using hk
    have hb := bound k
    have hx := hs.2 _ (List.getElem_mem hk)
    rw [hlt, cond_true, Int.toNat_natCast, wrap_of (by omega)]
    have ih := ih hq
    rw [List.take_succ_eq_append_getElem hk] at ih
    by_cases h0 : k = 0
    · subst h0
      have e : decide (((0 : Nat) : Int) > 0) = false := rfl
      rw [e, cond_false]
      refine ⟨by omega, _, seg_S (List.getElem?_eq_getElem hk), by simp [joinB]; omega, ?_⟩
      simpa [joinB] using ih
    · have e : decide ((k : Int) > 0) = true := by simp; omega
      rw [e, cond_true]
      have hne : p.take k ≠ [] := by
        intro h9
        have : (p.take k).length = 0 := by rw [h9]; rfl
        rw [List.length_take] at this
        omega
      rw [joinB_snoc _ _ _ hne] at ih
      refine ⟨by omega, by omega, _, seg_S (List.getElem?_eq_getElem hk), by simp; omega, ih⟩
/-- Text of paths (the reference) -/
theorem c59 (p : List Str) (hs : SsSm p) : CallT 59 [.sl false p.length (encS p)] [] (.str (joinB [46] p)) [] := by
  refine pureIs (M := ⟨false, 0⟩) (by kernel_rfl) (by simp) ?_
  rw [n59]
  exact reftext_loop p hs _ _ (Nat.zero_le _) rfl
end Go.Proofs.YtdnhhdplcminlaaGreatDoor.AI

/- Building values of expressions: what is built, and facts of valid nodes. -/
set_option maxHeartbeats 1000000
set_option maxRecDepth 100000
set_option linter.unusedVariables false
set_option linter.unusedSimpArgs false
set_option linter.unusedSectionVars false
namespace Go.Proofs.YtdnhhdplcminlaaGreatDoor.AI
open Go

def zipF (ns : List Str) (l : List V) : List F := List.zipWith F.mk ns l
/-- Is a value written as it is? -/
def asIs (a : V) : Bool := bif (bif a.kind != 6 then (bif a.kind != 5 then true else a.doc.length == 0) else false) then !(bif a.kind == 4 then prefixB a.text [36] else false) else false
/-- The value of a node whose kids' values are known. -/
def bld (op : Int) (p : List Str) (nm : Str) (ns : List Str) (a : V) (l : List V) : V :=
  bif op == 1 then (bif asIs a then a else V.one (opName 1) a)
  else bif op == 2 then V.text' ([36] ++ joinB [46] p)
  else bif op == 3 then V.text' ([36, 36] ++ joinB [46] (nm :: p))
  else bif op == 35 then V.list' l
  else bif op == 34 then V.doc' (zipF ns l)
  else bif op == 32 || op == 33 then V.one (opName op.toNat) (V.list' [l.getD 0 V.zero, V.text' nm, l.getD 1 V.zero])
  else bif opShape op.toNat == 2 then V.one (opName op.toNat) (l.getD 0 V.zero)
  else V.one (opName op.toNat) (V.list' l)
mutual
/-- The value of a valid expression. -/
def buildV : E → V
  | .mk op p nm ns a _ ks => bld op p nm ns a (buildVs ks)
def buildVs : List E → List V
  | [] => []
  | e :: r => buildV e :: buildVs r
end
theorem buildV_eq (e : E) : buildV e = bld e.op e.path e.name e.names e.arg (buildVs e.kids) := by cases e; rfl
theorem buildVs_map : ∀ l : List E, buildVs l = l.map buildV
  | [] => rfl
  | e :: l => by simp [buildVs, buildVs_map l]

mutual
/-- Each node by itself is right. -/
def okE : E → Bool
  | .mk op p nm ns a m ks => nodeE (.mk op p nm ns a m ks) == 0 && okEs ks
def okEs : List E → Bool
  | [] => true
  | e :: r => okE e && okEs r
end
theorem okE_eq (e : E) : okE e = (nodeE e == 0 && okEs e.kids) := by cases e; rfl
theorem okEs_mem : ∀ {l : List E} {x : E}, okEs l = true → x ∈ l → okE x = true
  | e :: l, x, h, hx => by
    rw [okEs, Bool.and_eq_true] at h
    rcases List.mem_cons.1 hx with rfl | hx
    · exact h.1
    · exact okEs_mem h.2 hx

mutual
theorem chk_ok : ∀ (e : E) (level n : Nat), (chk e level n).1 = 0 → okE e = true
  | .mk op p nm ns a m ks, level, n, h => by
    rw [chk] at h
    rw [okE]
    cases h1 : decide (level > 16) || decide (n + 1 > 256) with
    | true => rw [h1] at h; cases h
    | false =>
      rw [h1, cond_false] at h
      cases h3 : nodeE (.mk op p nm ns a m ks) != 0 with
      | true =>
        rw [h3, cond_true] at h
        have h' : nodeE (.mk op p nm ns a m ks) = 0 := h
        rw [h'] at h3
        cases h3
      | false =>
        rw [h3, cond_false] at h
        have h' : nodeE (.mk op p nm ns a m ks) = 0 := by simpa using h3
        rw [h', chks_ok ks _ _ h]
        rfl
theorem chks_ok : ∀ (l : List E) (level n : Nat), (chks l level n).1 = 0 → okEs l = true
  | [], level, n, h => rfl
  | k :: r, level, n, h => by
    rw [chks] at h
    rw [okEs]
    cases h3 : (chk k level n).1 != 0 with
    | true =>
      rw [h3, cond_true] at h
      rw [h] at h3
      cases h3
    | false =>
      rw [h3, cond_false] at h
      rw [chk_ok k level n (by simpa using h3), chks_ok r _ _ h]
      rfl
end

structure NodeOk (e : E) : Prop where
  op : 1 ≤ e.op ∧ e.op ≤ 37
  kids : kidsOkB e.op e.kids.length e.names.length = true
  path : e.op = 2 → pathOkB e.path = true
  path3 : e.op = 3 → e.path ≠ [] → pathOkB e.path = true
  name : e.op = 3 ∨ e.op = 32 ∨ e.op = 33 → nameB e.name = true
  names : e.op = 34 → apartB nameB [] e.names = true
  arg : e.op = 1 → validB nameB e.arg = true
  unused : unusedB e = false

theorem node_ok {e : E} (h : nodeE e = 0) : NodeOk e := by
  unfold nodeE at h
  cases h1 : ((decide (e.op < 1) || decide (e.op > 37)) || !(kidsOkB e.op e.kids.length e.names.length)) with
  | true => rw [h1] at h; cases h
  | false =>
  rw [h1, cond_false] at h
  cases h2 : ((e.op == 2 && !(pathOkB e.path)) || ((e.op == 3 && decide ((e.path.length : Int) > 0)) && !(pathOkB e.path))) with
  | true => rw [h2] at h; cases h
  | false =>
  rw [h2, cond_false] at h
  cases h3 : (((e.op == 3 || (e.op == 32 || e.op == 33)) && !(nameB e.name)) || (e.op == 34 && !(apartB nameB [] e.names))) with
  | true => rw [h3] at h; cases h
  | false =>
  rw [h3, cond_false] at h
  unfold restE at h
  cases h4 : (e.op == 1 && !(validB nameB e.arg)) with
  | true => rw [h4] at h; cases h
  | false =>
  rw [h4, cond_false] at h
  cases h5 : unusedB e with
  | true => rw [h5] at h; cases h
  | false =>
  simp only [Bool.or_eq_false_iff, decide_eq_false_iff_not, Bool.not_eq_false'] at h1
  simp only [Bool.or_eq_false_iff, Bool.and_eq_false_iff, Bool.not_eq_false', beq_eq_false_iff_ne, ne_eq, decide_eq_false_iff_not] at h2 h3 h4
  refine ⟨by omega, h1.2, fun h => ?_, fun h hp => ?_, fun h => ?_, fun h => ?_, fun h => ?_, h5⟩
  · exact h2.1.resolve_left (fun h9 => h9 h)
  · refine h2.2.resolve_left (fun h9 => ?_)
    rcases h9 with h9 | h9
    · exact h9 h
    · refine h9 ?_
      cases hq : e.path with
      | nil => exact absurd hq hp
      | cons a l => simp
  · refine h3.1.resolve_left (fun h9 => ?_)
    obtain ⟨a, b, c⟩ := h9
    rcases h with h | h | h
    · exact a h
    · exact b h
    · exact c h
  · exact h3.2.resolve_left (fun h9 => h9 h)
  · exact h4.resolve_left (fun h9 => h9 h)

theorem okE_node {e : E} (h : okE e = true) : NodeOk e := by
  rw [okE_eq, Bool.and_eq_true] at h
  exact node_ok (by simpa using h.1)
theorem okE_kid {e x : E} (h : okE e = true) (hx : x ∈ e.kids) : okE x = true := by
  rw [okE_eq, Bool.and_eq_true] at h
  exact okEs_mem h.2 hx

theorem kids_of {op : Int} {n m : Nat} (h : kidsOkB op n m = true) : (0 ≤ kidsN op → (n : Int) = kidsN op) ∧ (op = 34 → n = m ∧ n ≠ 0) := by
  unfold kidsOkB at h
  simp only [Bool.and_eq_true, Bool.not_eq_true'] at h
  obtain ⟨h1, h2⟩ := h
  refine ⟨fun h0 => ?_, fun h34 => ?_⟩
  · have e1 : decide (kidsN op ≥ 0) = true := by simpa using h0
    rw [e1, cond_true] at h1
    simpa using h1
  · subst h34
    have e1 : ((34 : Int) == 34) = true := rfl
    rw [e1, cond_true] at h2
    cases h3 : ((n : Int) != (m : Int)) with
    | true => rw [h3] at h2; cases h2
    | false =>
      rw [h3, cond_false] at h2
      simp at h2 h3
      exact ⟨by omega, h2⟩

theorem nameB_len {s : Str} (h : nameB s = true) : s.length ≤ 32 := by
  simp only [nameB, Bool.and_eq_true, decide_eq_true_eq] at h
  exact h.1.1.2
theorem pathOk_len {p : List Str} (h : pathOkB p = true) : p.length ≤ 16 ∧ ∀ s ∈ p, s.length ≤ 32 := by
  simp only [pathOkB, Bool.and_eq_true, decide_eq_true_eq, List.all_eq_true] at h
  exact ⟨h.1.2, fun s hs => nameB_len (h.2 s hs)⟩
theorem joinB_len' (sep : Str) (M : Nat) : ∀ l : List Str, (∀ s ∈ l, s.length ≤ M) → (joinB sep l).length ≤ l.length * (M + sep.length)
  | [], _ => by simp [joinB]
  | [s], h => by
    have := h s (by simp)
    simp [joinB]
    omega
  | s :: t :: l, h => by
    have h1 := h s (by simp)
    have h2 := joinB_len' sep M (t :: l) (fun x hx => h x (by simp [hx]))
    rw [joinB_cons _ _ (by simp)]
    simp only [List.length_append, List.length_cons] at h2 ⊢
    rw [Nat.succ_mul (l.length + 1)]
    omega
theorem joinPath_len {p : List Str} (h : pathOkB p = true) : (joinB [46] p).length ≤ 528 := by
  obtain ⟨h1, h2⟩ := pathOk_len h
  have h3 := joinB_len' [46] 32 p h2
  have h4 : p.length * (32 + [(46 : UInt8)].length) ≤ 16 * (32 + 1) := Nat.mul_le_mul_right _ h1
  omega
theorem joinVar_len {nm : Str} {p : List Str} (hn : nameB nm = true) (h : p ≠ [] → pathOkB p = true) : (joinB [46] (nm :: p)).length ≤ 561 := by
  have h1 := nameB_len hn
  cases hp : p with
  | nil => simp [joinB]; omega
  | cons s l =>
    have h2 := joinPath_len (h (by rw [hp]; simp))
    rw [hp] at h2
    rw [joinB_cons _ _ (by simp)]
    simp only [List.length_append, List.length_cons, List.length_nil] at h2 ⊢
    omega

/-- An append to a slice that is full. -/
theorem app_sl {t el sz : Nat} (T : rowB t el sz = true) {h : Heap} {n : Nat} {cs : List AV} {x : AV} {m : Nat} {ys : List AV} (hx : srcCells h x = some (m, ys)) (hy : ys.length = m * sz) (hb : n + m ≤ 1073741824) (hc : cs.length = n * sz) :
    (m = 0 → aAppend Tryz.prog false #[t, t] h (.sl true n cs) x = some (.val (.sl true n cs))) ∧ (m ≠ 0 → ∃ h' id', aAppend Tryz.prog false #[t, t] h (.sl true n cs) x = some (.heap h' (.tk id' (n + m) (cs ++ ys)))) := by
  unfold rowB at T
  split at T <;> try cases T
  rename_i e i z hu hi hz
  simp only [Bool.and_eq_true, Bool.not_eq_true'] at T
  obtain ⟨h1, h2, h3, h4, h5, h6, h7⟩ := T
  have h1 : e = el := Nat.eq_of_beq_eq_true h1
  have h2 : i.size = sz := Nat.eq_of_beq_eq_true h2
  have h7 : (cellsOf z).length = sz := Nat.eq_of_beq_eq_true h7
  have h5 : i.bytes ≤ 65536 := Nat.le_of_ble_eq_true h5
  have h3 : sz ≠ 0 := fun h0 => by subst h0; simp at h3
  have h4 : i.bytes ≠ 0 := fun h0 => by rw [h0] at h4; simp at h4
  subst h1
  have hcond : (decide (i.size = 0) || decide (i.bytes = 0) || decide (65536 < i.bytes) || decide (ys.length ≠ m * i.size) || !solid z || decide ((cellsOf z).length ≠ i.size)) = false := by
    simp only [h2, h6, h7, hy, ne_eq, not_true_eq_false, decide_false, Bool.not_true, Bool.or_false, Bool.or_eq_false_iff, decide_eq_false_iff_not]
    exact ⟨⟨h3, h4⟩, by omega⟩
  constructor
  · intro hm
    unfold aAppend
    simp only [ne_eq, not_true_eq_false, if_false, hu, hi, hz, hx]
    simp only [ne_eq] at hcond
    rw [hcond]
    simp [hm]
  · intro hm
    refine ⟨h ++ [some (.tok e (n + m) (cs ++ ys).length)], h.length, ?_⟩
    unfold aAppend
    simp only [ne_eq, not_true_eq_false, if_false, hu, hi, hz, hx]
    simp only [ne_eq] at hcond
    rw [hcond]
    have hcond2 : (!true || decide (maxN < n + m) || decide (cs.length ≠ n * i.size)) = false := by
      simp only [h2, hc, ne_eq, not_true_eq_false, decide_false, Bool.or_false, Bool.not_true, Bool.false_or, decide_eq_false_iff_not]
      exact Nat.not_lt.2 hb
    simp only [ne_eq] at hcond2
    simp only [Bool.false_eq_true, if_false, hm, hcond2]
    simp [grown]
end Go.Proofs.YtdnhhdplcminlaaGreatDoor.AI
