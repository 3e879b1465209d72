/- What comes in, as the interpreter's values. -/
import Derived.Test.YtdnhhdplcminlaaGreatDoorAiFun
import Derived.ProofKit
import Derived.Shelf.Vars
import Derived.OpenShut
import Derived.LaidMore
import Derived.Stop.Joined
set_option maxHeartbeats 400000
set_option linter.unusedVariables false
set_option linter.unusedSimpArgs false
set_option linter.unusedSectionVars false
namespace Go.Proofs.YtdnhhdplcminlaaGreatDoor.AI
variable [Nu]

section
variable {H : Type}

def avParts (P : Program) (F : TypeId → DataW H → Option (List AV)) : Nat → List (Nat × TypeId) → List (DataW H) → Option (List AV)
  | _, [], [] => some []
  | off, (o, t) :: r, x :: xs => if o = off then match F t x with
      | some cs => if cs.length = P.cellsOf t then match avParts P F (off + cs.length) r xs with
          | some ds => some (cs ++ ds)
          | none => none
        else none
      | none => none
    else none
  | _, _, _ => none

/-- The cells of a datum, by its type. -/
def avT (P : Program) : Nat → TypeId → DataW H → Option (List AV)
  | 0, _, _ => none
  | n + 1, t, d => match P.underlying t, d with
    | some .bool, .lit (.bool b) => some [.bool b]
    | some (.int _), .lit (.int k m) => some [.int k m]
    | some .string, .lit (.string s) => some [.str s]
    | some (.slice _), .nil => some [.sl false 0 []]
    | some (.slice e), .slice xs _ => match xs.mapM (avT P n e) with
      | some css => some [.sl false xs.length css.flatten]
      | none => none
    | some (.struct fs), .agg xs => match avParts P (avT P n) 0 (fs.toList.map fun f => (f.offset, f.type)) xs with
      | some cs => if cs.length = P.cellsOf t then some cs else none
      | none => none
    | some (.array k e), .agg xs => match avParts P (avT P n) 0 ((List.range k).map fun i => (i * P.cellsOf e, e)) xs with
      | some cs => if cs.length = P.cellsOf t then some cs else none
      | none => none
    | _, _ => none

variable {enc : TypeId × Value → H} {P : Program} {w : World} {spare : Nat → Bool} {held : Bool} {X : RC}

theorem mapM_of {α β : Type} {f : α → Option β} : ∀ {l : List α} {ys : List β}, ys.length = l.length → (∀ (i : Nat) (q : α), l[i]? = some q → f q = ys[i]?) → l.mapM f = some ys
  | [], ys, hl, _ => by
    have : ys = [] := List.eq_nil_of_length_eq_zero hl
    subst this
    rfl
  | q :: l, [], hl, _ => by simp at hl
  | q :: l, y :: ys, hl, h => by
    have h0 := h 0 q rfl
    simp only [List.getElem?_cons_zero] at h0
    have := mapM_of (l := l) (ys := ys) (by simpa using hl) (fun i q' hq => by simpa using h (i + 1) q' (by simpa using hq))
    simp [List.mapM_cons, h0, this]

theorem repC_one {v : AV} {c : Value} (h : Rep X v c) (h1 : c.oneCell' = true) : RepC X [v] [c] :=
  ⟨rfl, fun u hu => by simp only [List.mem_singleton] at hu; subst hu; exact h1, fun j hj => by
    have : j = 0 := by simpa using hj
    subst this
    simpa using h⟩

theorem parts_ok {α : Type} {n fuel : Nat} (ih : ∀ t cs d ps as, DataW.trod enc P w 0 spare held fuel t cs = some (d, ps) → avT P n t d = some as → RepC X as cs) {cs : List Value} (o : α → Nat) (ty : α → TypeId) :
    ∀ (l : List α) (ys : List (DataW H × List MemPlace)) (off : Nat) (as : List AV), (l.mapM fun q => DataW.trod enc P w 0 spare held fuel (ty q) ((cs.drop (o q)).take (P.cellsOf (ty q)))) = some ys →
      avParts P (avT P n) off (l.map fun q => (o q, ty q)) (ys.map (·.1)) = some as → RepC X as ((cs.drop off).take as.length)
  | [], ys, off, as, hm, ha => by
    simp only [List.mapM_nil, Option.pure_def, Option.some.injEq] at hm
    subst hm
    simp only [List.map_nil, avParts, Option.some.injEq] at ha
    subst ha
    simpa using RepC.nil X
  | q :: l, ys, off, as, hm, ha => by
    simp only [List.mapM_cons, Option.bind_eq_bind, Option.pure_def] at hm
    obtain ⟨y, hy, hm⟩ := Option.bind_eq_some_iff.1 hm
    obtain ⟨ys', hys, hm⟩ := Option.bind_eq_some_iff.1 hm
    simp only [Option.some.injEq] at hm
    subst hm
    simp only [List.map_cons, avParts] at ha
    split at ha <;> try cases ha
    rename_i ho
    split at ha <;> try cases ha
    rename_i as1 h1
    split at ha <;> try cases ha
    rename_i hlen
    split at ha <;> try cases ha
    rename_i as2 h2
    have r1 := ih _ _ y.1 y.2 _ (by rw [hy]) h1
    rw [ho] at r1
    have r2 := parts_ok ih o ty l ys' (off + as1.length) as2 hys h2
    have e1 : ((cs.drop off).take (P.cellsOf (ty q))).length = as1.length := r1.1
    have : (cs.drop off).take (as1 ++ as2).length = (cs.drop off).take (P.cellsOf (ty q)) ++ (cs.drop (off + as1.length)).take as2.length := by
      rw [List.length_append, ← hlen, List.take_add, List.drop_drop]
    rw [this]
    exact RepC.app r1 r2

theorem slice_cells {n fuel : Nat} (ih : ∀ t cs d ps as, DataW.trod enc P w 0 spare held fuel t cs = some (d, ps) → avT P n t d = some as → RepC X as cs) {e : TypeId} {a : Addr} : ∀ (l : List Nat) (elems : List (DataW H × List MemPlace)) (css : List (List AV)),
    (l.mapM fun i => (w.cells? 0 (a.add (i * P.cellsOf e)) (P.cellsOf e)).bind (DataW.trod enc P w 0 spare held fuel e)) = some elems → (elems.map (·.1)).mapM (avT P n e) = some css →
    ∃ valss : List (List Value), valss.length = l.length ∧ RepC X css.flatten valss.flatten ∧ ∀ i (h : i < l.length) (h' : i < valss.length), valss[i].length = P.cellsOf e ∧ ∀ (j : Nat) (v : Value), valss[i][j]? = some v → w.cell? ((a.add (l[i] * P.cellsOf e)).add j) = some v
  | [], elems, css, hm, ha => by
    simp only [List.mapM_nil, Option.pure_def, Option.some.injEq] at hm
    subst hm
    simp only [List.map_nil, List.mapM_nil, Option.pure_def, Option.some.injEq] at ha
    subst ha
    exact ⟨[], rfl, RepC.nil X, fun i h => by cases h⟩
  | i :: l, elems, css, hm, ha => by
    simp only [List.mapM_cons, Option.bind_eq_bind, Option.pure_def] at hm
    obtain ⟨y, hy, hm⟩ := Option.bind_eq_some_iff.1 hm
    obtain ⟨ys', hys, hm⟩ := Option.bind_eq_some_iff.1 hm
    simp only [Option.some.injEq] at hm
    subst hm
    simp only [List.map_cons, List.mapM_cons, Option.bind_eq_bind, Option.pure_def] at ha
    obtain ⟨c1, h1, ha⟩ := Option.bind_eq_some_iff.1 ha
    obtain ⟨cs', h2, ha⟩ := Option.bind_eq_some_iff.1 ha
    simp only [Option.some.injEq] at ha
    subst ha
    obtain ⟨valss, v1, v2, v3⟩ := slice_cells ih l ys' cs' hys h2
    obtain ⟨vals, hv, ht⟩ := Option.bind_eq_some_iff.1 hy
    have r1 := ih _ _ y.1 y.2 _ ht h1
    simp only [World.cells?, Nat.zero_le, if_true] at hv
    have hvl : vals.length = P.cellsOf e := by simpa using mapM_some_length hv
    refine ⟨vals :: valss, by simp [v1], RepC.app r1 v2, fun k hk hk' => ?_⟩
    cases k with
    | zero =>
      refine ⟨hvl, fun j v hj => ?_⟩
      have hj' : vals[j]? = some v := hj
      have hjl : j < vals.length := (List.getElem?_eq_some_iff.1 hj').1
      have := mapM_some_get hv j j (by rw [List.getElem?_range (by omega)])
      show w.cell? ((a.add (i * P.cellsOf e)).add j) = some v
      rw [this]
      exact hj'
    | succ k => exact v3 k (by simpa using hk) (by simpa using hk')

theorem flat_cells {sz : Nat} {a : Addr} : ∀ (valss : List (List Value)) (k : Nat), (∀ i (h : i < valss.length), valss[i].length = sz ∧ ∀ (j : Nat) (v : Value), valss[i][j]? = some v → w.cell? ((a.add ((k + i) * sz)).add j) = some v) →
    ∀ (j : Nat) (v : Value), valss.flatten[j]? = some v → w.cell? (a.add (k * sz + j)) = some v
  | [], k, _, j, v, h => by simp at h
  | vs :: valss, k, hall, j, v, h => by
    obtain ⟨h1, h2⟩ := hall 0 (by simp)
    simp only [List.getElem_cons_zero, Nat.add_zero] at h1 h2
    rw [List.flatten_cons] at h
    by_cases hj : j < sz
    · rw [List.getElem?_append_left (by omega)] at h
      rw [← add_add]
      exact h2 j v h
    · rw [List.getElem?_append_right (by omega)] at h
      have := flat_cells valss (k + 1) (fun i hi => by
        have := hall (i + 1) (by simpa using hi)
        simp only [List.getElem_cons_succ] at this
        rw [show k + 1 + i = k + (i + 1) by omega]
        exact this) (j - vs.length) v h
      rw [show k * sz + j = (k + 1) * sz + (j - vs.length) by rw [h1, Nat.succ_mul]; omega]
      exact this

/-- A datum that has been read stands where it was read. -/
theorem trod_rep (hX : ∀ a v, w.cell? a = some v → v.oneCell' = true → X.S a v) : ∀ (n fuel : Nat) (t : TypeId) (cs : List Value) (d : DataW H) (ps : List MemPlace) (as : List AV),
    DataW.trod enc P w 0 spare held fuel t cs = some (d, ps) → avT P n t d = some as → RepC X as cs
  | 0, _, _, _, _, _, _, _, ha => by simp [avT] at ha
  | n + 1, 0, t, cs, d, ps, as, ht, ha => by simp [DataW.trod] at ht
  | n + 1, fuel + 1, t, cs, d, ps, as, ht, ha => by
    have ih : ∀ t cs d ps as, DataW.trod enc P w 0 spare held fuel t cs = some (d, ps) → avT P n t d = some as → RepC X as cs := fun t cs d ps as => trod_rep hX n fuel t cs d ps as
    unfold avT at ha
    split at ha <;> try cases ha
    · rename_i b hu
      obtain ⟨b', rfl, hx⟩ := DataW.trod_bool hu ht
      simp only [Prod.mk.injEq, DataW.lit.injEq, Lit.bool.injEq] at hx
      obtain ⟨rfl, _⟩ := hx
      exact repC_one (.bool _) rfl
    · rename_i k0 k m hu
      obtain ⟨m', rfl, hx, _⟩ := DataW.trod_int hu ht
      simp only [Prod.mk.injEq, DataW.lit.injEq, Lit.int.injEq] at hx
      obtain ⟨⟨rfl, rfl⟩, _⟩ := hx
      exact repC_one (.int _ _) rfl
    · rename_i b hu
      obtain ⟨b', rfl, hx, _⟩ := DataW.trod_string hu ht
      simp only [Prod.mk.injEq, DataW.lit.injEq, Lit.string.injEq] at hx
      obtain ⟨rfl, _⟩ := hx
      have := Rep.str (X := X) b'.data.toList
      exact repC_one (by simpa using this) rfl
    · rename_i e hu
      rcases DataW.trod_slice hu ht with ⟨rfl, _⟩ | ⟨_, _, _, _, _, _, _, _, hx, _⟩
      · exact repC_one (.slN _) rfl
      · simp at hx
    · rename_i e xs sp hu
      split at ha <;> try cases ha
      rename_i css hcss
      rcases DataW.trod_slice hu ht with ⟨_, hx⟩ | ⟨a, len, cap, elems, rest, n', hn', rfl, hx, hb, hlc, hcm, hel, hall, _, _⟩
      · simp at hx
      · simp only [Prod.mk.injEq, DataW.slice.injEq] at hx
        obtain ⟨⟨rfl, _⟩, _⟩ := hx
        obtain rfl : n' = fuel := by omega
        have hm : ((List.range len).mapM fun i => (w.cells? 0 (a.add (i * P.cellsOf e)) (P.cellsOf e)).bind (DataW.trod enc P w 0 spare held n' e)) = some elems :=
          mapM_of (by simp [hel]) (fun i q hq => by
            have hlt : i < len := by
              have := (List.getElem?_eq_some_iff.1 hq).1
              simpa using this
            rw [List.getElem?_range hlt] at hq
            simp only [Option.some.injEq] at hq
            subst hq
            exact hall i hlt)
        obtain ⟨valss, v1, v2, v3⟩ := slice_cells ih (List.range len) elems css hm hcss
        refine repC_one ?_ rfl
        have hfl := flat_cells (w := w) (sz := P.cellsOf e) (a := a) valss 0 (fun i hi => by
          have hi' : i < (List.range len).length := by rw [← v1]; exact hi
          have := v3 i hi' hi
          simp only [List.getElem_range] at this
          simpa using this)
        have hlen : elems.length = len := hel
        rw [List.length_map, hlen]
        refine .sl false len _ a cap (fun j => valss.flatten.getD j undef) hlc hcm (by simp) (fun j hj => ?_) v2.2.2
        have hj' : j < valss.flatten.length := by rw [v2.1]; exact hj
        have he : valss.flatten[j]? = some (valss.flatten.getD j undef) := by simp [List.getElem?_eq_getElem hj']
        have := hfl j _ he
        rw [Nat.zero_mul, Nat.zero_add] at this
        exact hX _ _ this (v2.2.1 _ (List.mem_of_getElem? he))
    · rename_i fs xs hu
      split at ha <;> try cases ha
      rename_i cs' hcs
      split at ha <;> try cases ha
      rename_i hlen
      obtain ⟨ys, n', hn', hx, hl, hy, hall⟩ := DataW.trod_struct hu ht
      simp only [Prod.mk.injEq, DataW.agg.injEq] at hx
      obtain ⟨rfl, _⟩ := hx
      obtain rfl : n' = fuel := by omega
      have hm : (fs.toList.mapM fun f => DataW.trod enc P w 0 spare held n' f.type ((cs.drop f.offset).take (P.cellsOf f.type))) = some ys :=
        mapM_of (by simp [hy]) (fun i f hf => hall i f (by simpa using hf))
      have := parts_ok ih (cs := cs) (fun f : Field => f.offset) (fun f => f.type) fs.toList ys 0 _ hm hcs
      rw [List.drop_zero, hlen, ← hl, List.take_length] at this
      exact this
    · rename_i k e xs hu
      split at ha <;> try cases ha
      rename_i cs' hcs
      split at ha <;> try cases ha
      rename_i hlen
      obtain ⟨ys, n', hn', hx, hl, hy, hall⟩ := DataW.trod_array hu ht
      simp only [Prod.mk.injEq, DataW.agg.injEq] at hx
      obtain ⟨rfl, _⟩ := hx
      obtain rfl : n' = fuel := by omega
      have hm : ((List.range k).mapM fun i => DataW.trod enc P w 0 spare held n' e ((cs.drop (i * P.cellsOf e)).take (P.cellsOf e))) = some ys :=
        mapM_of (by simp [hy]) (fun i q hq => by
          have hlt : i < k := by
            have := (List.getElem?_eq_some_iff.1 hq).1
            simpa using this
          rw [List.getElem?_range hlt] at hq
          simp only [Option.some.injEq] at hq
          subst hq
          exact hall i hlt)
      have := parts_ok ih (cs := cs) (fun i : Nat => i * P.cellsOf e) (fun _ => e) (List.range k) ys 0 _ hm hcs
      rw [List.drop_zero, hlen, ← hl, List.take_length] at this
      exact this
end
end Go.Proofs.YtdnhhdplcminlaaGreatDoor.AI
