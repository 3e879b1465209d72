/- From a row to a call and back. -/
import Derived.Test.YtdnhhdplcminlaaGreatDoorAiTop
set_option maxHeartbeats 400000
set_option linter.unusedVariables false
set_option linter.unusedSimpArgs false
set_option linter.unusedSectionVars false
namespace Go.Proofs.YtdnhhdplcminlaaGreatDoor.AI
open Go.ChangeShapes Go.WideShapes Go.RowKit
variable [Nu]

section
variable {H : Type} {enc : TypeId × Value → H}

/-- The wrap of a row with a condition on the world, and the world's shape besides. -/
theorem returnsIn_both {a : Assume} {C : Checked} {os : Os} {f : FuncId} {fn : Func} {s : ChangeSpec} {conds : List PathCond} {apart fresh handsOn again : Bool} {X : World → Array Value → Prop}
    (hX : ∀ (w w' : World) (args : Array Value), w.heap = w'.heap → X w args → X w' args)
    (own : ownKnob C.prog.godebug = none) (started : os.Started) (noInit : C.prog.inits.idxOf? f = none) (hfn : C.prog.funcs[f]? = some fn)
    (witness : ∃ (w : World) (tape : Tape) (i : Input), w.os = os ∧ (w.forCall tape i).Shaped C.prog ∧ i.vars = [] ∧ Input.okWide C.prog (w.forCall tape i) .any w.heap.size f i ∧
      ((s.pre enc C.prog fn conds apart (w.forCall tape i).memory i.args ∧ X (w.forCall tape i).memory i.args) ∧ sizedMet enc C.prog fn (OpenSpec.ofChange s) apart (w.forCall tape i).memory i.args) ∧ a.holds C.prog (lone (Frame.enter C.prog f i.args .normal) [] (w.forCall tape i)))
    (contract : ∀ (W : World) (base : Nat) (args : Array Value) (ds gs : List (DataW H)) (before : List MemPlace),
      (∀ (j : Nat) t v, fn.params[j]? = some t → args[j]? = some v → Value.okWide C.prog W .any base t v) →
      DataW.Whole enc C.prog fn.params.toList s.vars apart W args.toList ds gs before →
      conds.all (PathCond.test C.prog ⟨fn.params.toList, ds, s.plain.varTypes C.prog, gs⟩) = true →
      (DataW.weightsEach C.prog (fn.params.toList ++ s.plain.varTypes C.prog) (ds ++ gs)).all (· ≤ reachBytes) = true → X W args → W.ShapedOpen C.prog →
      a.holds C.prog (lone (Frame.enter C.prog f args .normal) [] W) →
      Calls C.prog f args W fun e W' => ∃ v, e = .returned v ∧ s.post enc C.prog fn apart fresh handsOn again W args v W') :
    ReturnsInHanded a C os f .any (fun w args => (s.pre enc C.prog fn conds apart w args ∧ X w args) ∧ sizedMet enc C.prog fn (OpenSpec.ofChange s) apart w args) (s.post enc C.prog fn apart fresh handsOn again) := by
  refine returnsInHanded_of_calls own started noInit witness ?_
  intro w tape i _ hsh _ hok hpre hholds
  obtain ⟨_, _, _, fn', hfn', _, _, _, _, hval⟩ := hok
  have e : fn' = fn := Option.some.inj (hfn'.symm.trans hfn)
  subst e
  obtain ⟨⟨⟨ds, gs, before, hw, hc⟩, hx⟩, hz⟩ := hpre
  have hw' := DataW.Whole.of_heap (w' := w.forCall tape i) (by rfl) hw
  refine (contract (w.forCall tape i) w.heap.size i.args ds gs before hval hw' hc (hz.weights hw) (hX _ _ _ (by rfl) hx) hsh hholds).mono fun e W' ⟨v, he, hp⟩ => ?_
  subst he
  exact ChangeSpec.post_blind hp

variable {P : Program} {G : Cfg}

/-- Nothing lies outside, nothing has been made. -/
def noE : Nat → Nat → Prop := fun _ _ => False
def lay0 : Lay := { loc := fun _ => 0, isTok := fun _ => false, cap := fun _ => 0 }
def rc0 (w : World) : RC := rc noE lay0 (obOf Env.empty []) 0 w

theorem rc0_S {w : World} {a : Addr} {v : Value} (h : w.cell? a = some v) (h1 : v.oneCell' = true) : (rc0 w).S a v := by
  refine ⟨h, ?_, h1⟩
  rintro (h | ⟨k, o, hk, _⟩)
  · exact h
  · rw [nil_ob] at hk; cases hk

theorem HS.start {w : World} (hg : ∀ g cs, G.glob g = some cs → ∃ vs : List Value, RepC (rc0 w) cs vs ∧ ∀ (j : Nat) (v : Value), vs[j]? = some v → w.cell? ⟨g, j, none⟩ = some v)
    (hi : ∀ g, G.ints g = true → ∃ m, w.cell? ⟨g, 0, none⟩ = some (.int .i64 m)) : HS P G noE lay0 (obOf Env.empty []) 0 w := by
  refine ⟨fun k o hk => ?_, fun k o hk => ?_, fun k k' o o' hk => ?_, fun k o j hk => ?_, fun g j h => h.elim, fun g cs h => ?_, fun id o hk => ?_, fun g h => ?_⟩
  · rw [nil_ob] at hk; cases hk
  · rw [nil_ob] at hk; cases hk
  · rw [nil_ob] at hk; cases hk
  · rw [nil_ob] at hk; cases hk
  · obtain ⟨vs, hr, hc⟩ := hg g cs h
    have h0 : (⟨g, 0, none⟩ : Addr).add 0 = ⟨g, 0, none⟩ := by unfold Addr.add; simp
    have := Rep.ip (X := rc0 w) cs 0 ⟨g, 0, none⟩ (fun j => vs.getD j undef) (fun j hj => by
      have hj' : j < vs.length := by rw [hr.1]; exact hj
      have hv : vs[j]? = some (vs.getD j undef) := by simp [List.getElem?_eq_getElem hj']
      have ha : (⟨g, 0, none⟩ : Addr).add j = ⟨g, j, none⟩ := by unfold Addr.add; split <;> simp_all
      rw [ha]
      exact rc0_S (hc j _ hv) (hr.2.1 _ (List.mem_of_getElem? hv))) hr.2.2
    rw [h0] at this
    exact this
  · rw [nil_ob] at hk; cases hk
  · obtain ⟨m, hm⟩ := hi g h
    exact ⟨m, rc0_S hm rfl⟩

theorem laid_var {w : World} : ∀ {laid : List (String × DataW Unit)} {ps : List MemPlace}, DataW.LaidVars P w laid ps → ∀ name d, (name, d) ∈ laid →
    ∃ g t fuel p, ∃ cs : List Value, P.globalNamed name = some g ∧ (P.globals[g]?).map (·.type) = some t ∧ (∀ j, w.cell? ⟨g, j, none⟩ = cs[j]?) ∧ DataW.trod (fun _ => ()) P w 0 (fun _ => true) false fuel t cs = some (d, p)
  | [], ps, h, name, d, hm => by cases hm
  | (n, d0) :: r, ps, h, name, d, hm => by
    obtain ⟨g, t, cs, fuel, p, q, h1, h2, h3, h4, h5, _⟩ := h
    rcases List.mem_cons.1 hm with he | hm
    · cases he
      exact ⟨g, t, fuel, p, cs.toList, h1, h2, fun j => by rw [World.var?_cell h1 h3 j]; simp, h4⟩
    · exact laid_var h5 name d hm

/-- A variable that is laid holds what its table says. -/
theorem laid_glob {w : World} {laid : List (String × DataW Unit)} {ps : List MemPlace} (h : DataW.LaidVars P w laid ps) {name : String} {d : DataW Unit} (hm : (name, d) ∈ laid) {g : Nat} {t : TypeId} {cs : List AV}
    (hg : P.globalNamed name = some g) (ht : (P.globals[g]?).map (·.type) = some t) (n : Nat) (hc : avT P n t d = some cs) : ∃ vs : List Value, RepC (rc0 w) cs vs ∧ ∀ (j : Nat) (v : Value), vs[j]? = some v → w.cell? ⟨g, j, none⟩ = some v := by
  obtain ⟨g', t', fuel, p, vs, h1, h2, h3, h4⟩ := laid_var h name d hm
  obtain rfl := Option.some.inj (hg.symm.trans h1)
  obtain rfl := Option.some.inj (ht.symm.trans h2)
  exact ⟨vs, trod_rep (fun a v ha hv => rc0_S ha hv) n fuel t vs d p cs h4 hc, fun j v hv => by rw [h3 j]; exact hv⟩

/-- The arguments read behind the call as they did. -/
theorem trodAll_stays {w w' : World} (hl : laidOutB P = true) (hb : Below w.heap.size w w') : ∀ {ts : List TypeId} {vs : List Value} {ds : List (DataW H)} {ps : List MemPlace}, (∀ t ∈ ts, P.readableRec t = true ∧ t < P.types.size) →
    DataW.TrodAll enc P w 0 (fun _ => true) true ts vs ds ps → (∀ p ∈ ps, p.block < w.heap.size) → DataW.TrodAll enc P w' 0 (fun b => decide (b < w.heap.size)) true ts vs ds ps
  | [], [], [], ps, _, h, _ => h
  | t :: ts, v :: vs, d :: ds, ps, ht, h, hlt => by
    obtain ⟨p, q, h1, h2, rfl⟩ := h
    obtain ⟨ht1, ht2⟩ := ht t (by simp)
    exact ⟨p, q, Below.trod hl ht1 ht2 h1 hb (fun x hx => hlt x (by simp [hx])), trodAll_stays hl hb (fun t' h' => ht t' (by simp [h'])) h2 (fun x hx => hlt x (by simp [hx])), rfl⟩
  | [], [], _ :: _, _, _, h, _ => h.elim
  | [], _ :: _, [], _, _, h, _ => h.elim
  | [], _ :: _, _ :: _, _, _, h, _ => h.elim
  | _ :: _, [], [], _, _, h, _ => h.elim
  | _ :: _, [], _ :: _, _, _, h, _ => h.elim
  | _ :: _, _ :: _, [], _, _, h, _ => h.elim

/-- A law that has handed back true. -/
theorem post_true {w w' : World} {f : Func} {s : ChangeSpec} {args : Array Value} {ds gs : List (DataW H)} {before : List MemPlace} {tb : TypeId} (hl : laidOutB P = true) (htb : P.underlying tb = some .bool) (hres : f.resultTypes = #[tb])
    (hts : ∀ t ∈ f.params.toList, P.readableRec t = true ∧ t < P.types.size) (hvars : s.vars = []) (hW : DataW.Whole enc P f.params.toList s.vars false w args.toList ds gs before)
    (hs : s.fn H (ds ++ gs) = { results := [.lit (.bool true)], args := ds }) (hfr : Fr (fun _ => False) w w') : s.post enc P f false true false false w args (.bool true) w' := by
  have hb : Below w.heap.size w w' := ⟨hfr.os, hfr.tape, hfr.output, hfr.size, fun k hk => hfr.block k hk (by simp)⟩
  have hW' := hW
  obtain ⟨p, q, hA, hV, rfl, hfz, hnd⟩ := hW
  refine ⟨ds, gs, _, [], p, [], hW', ?_, ?_, ?_, hb.frame _, fun h => by cases h⟩
  · rw [hs, hres]
    exact trodAll_mk1 (shut_bool htb true)
  · rw [hs]
    exact trodAll_stays hl hb hts hA hA.lt
  · rw [hs, hvars]
    rfl
end
end Go.Proofs.YtdnhhdplcminlaaGreatDoor.AI
