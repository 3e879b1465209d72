/- A function's call; the interpreter is sound. -/
import Derived.Test.YtdnhhdplcminlaaGreatDoorAiRun
set_option maxHeartbeats 400000
set_option linter.unusedVariables false
set_option linter.unusedSimpArgs false
set_option linter.unusedSectionVars false
namespace Go.Proofs.YtdnhhdplcminlaaGreatDoor.AI
variable [Nu]

section
variable {P : Program} {G : Cfg} {E : Nat → Nat → Prop} {f : FuncId} {L : Lay} {s : St} {a : Act} {w : World}

theorem envOf_get : ∀ (args : List AV) (i t : Nat), envOf args i t = if i ≤ t then args.getD (t - i) .undef else .undef
  | [], i, t => by simp [envOf, Env.empty]
  | v :: r, i, t => by
    simp only [envOf, Env.upd]
    by_cases ht : t = i
    · subst ht; simp
    · rw [if_neg ht, envOf_get r (i + 1) t]
      by_cases hle : i ≤ t
      · have e1 : t - i = (t - (i + 1)) + 1 := by omega
        rw [if_pos (by omega), if_pos hle, e1]
        simp
      · rw [if_neg (by omega), if_neg hle]

theorem args_nobox {X : RC} {args : List AV} {vs : List Value} (h : RepL X args vs) (t : Nat) (cs : List AV) : envOf args 0 t ≠ .box cs := by
  rw [envOf_get]
  simp only [Nat.zero_le, if_true, Nat.sub_zero]
  intro he
  by_cases ht : t < args.length
  · have := h.2 t ht
    have h2 : args.getD t .undef = args[t] := by simp [ht]
    rw [h2] at he
    rw [he] at this
    cases this
  · have h2 : args.getD t .undef = .undef := by simp [Nat.not_lt.1 ht]
    rw [h2] at he
    cases he

theorem args_ob {X : RC} {args : List AV} {vs : List Value} (h : RepL X args vs) (hp : Heap) : obOf (envOf args 0) hp = obOf Env.empty hp := by
  funext k
  cases k with
  | obj id => rfl
  | box t =>
    show boxO (envOf args 0 t) = boxO (Env.empty t)
    rw [boxO_none (args_nobox h t)]
    rfl

theorem result_ok (F : FS P G E f L s a w) {r : ResultVar} {v : AV} (h : resultOf P G s r = some v) :
    ∃ u, ((match r with | .tmp t => pure (a.tmps.getD t undef) | .cell x t => do loadVar t (← asAddr (a.tmps.getD x undef)) : Sem Value)).run P w = .ok u w ∧ Rep (rc E L (obOf s.env s.heap) s.heap.length w) v u := by
  cases r with
  | tmp t =>
    simp only [resultOf] at h
    refine ⟨a.tmps.getD t undef, rfl, ?_⟩
    by_cases ht : t < a.tmps.size
    · have hr := F.env t ht
      split at h <;> try cases h
      rename_i hnb hnp
      rcases hr with hr | ⟨cs, he, _⟩
      · exact hr.rep hnp
      · exact absurd he (hnb cs)
    · have := F.ein t (Nat.not_lt.1 ht)
      rw [this] at h
      cases h
      exact .undef _
  | cell x t =>
    simp only [resultOf] at h
    split at h <;> try cases h
    rename_i sz hs
    split at h <;> try cases h
    rename_i cs hr
    obtain ⟨v', hv, h⟩ := Option.bind_eq_some_iff.1 h
    split at h <;> try cases h
    have hp := F.eval (.tmp x)
    obtain ⟨ad, vs, hc, _⟩ := readP_ok F.hs hr hp
    obtain ⟨u, hrun, hrep⟩ := load_ok (P := P) F.hs hs hr hv hp
    refine ⟨u, ?_, hrep⟩
    have hx : a.tmps.getD x undef = .pointer (some ad) := hc
    rw [show a.eval (.tmp x) = .pointer (some ad) from hc] at hrun
    simp only [Instr.loadAt, Instr.sureAddr, Sem.run_bind, Sem.run_pure, Result.andThen_ok] at hrun
    simp only [hx, asAddr, Sem.run_bind, Sem.run_pure, Result.andThen_ok]
    exact hrun

theorem results_run (F : FS P G E f L s a w) : ∀ {rs : List ResultVar} {vs : List AV}, resultsOf P G s rs = some vs →
    ∃ us : List Value, (rs.mapM (m := Sem) fun r => match r with | .tmp t => pure (a.tmps.getD t undef) | .cell x t => do loadVar t (← asAddr (a.tmps.getD x undef))).run P w = .ok us w ∧ RepL (rc E L (obOf s.env s.heap) s.heap.length w) vs us
  | [], vs, h => by
    simp only [resultsOf, Option.some.injEq] at h
    subst h
    exact ⟨[], by simp, RepL.nil _⟩
  | r :: rs, vs, h => by
    simp only [resultsOf] at h
    split at h <;> try cases h
    rename_i v vs' hv hvs
    obtain ⟨u, hu, hr⟩ := result_ok F hv
    obtain ⟨us, hus, hrs⟩ := results_run F hvs
    refine ⟨u :: us, ?_, RepL.cons hr hrs⟩
    simp only [List.mapM_cons, Sem.run_bind, hu, Result.andThen_ok, hus, Sem.run_pure]

theorem results_ok (F : FS P G E f L s a w) {fn : Func} {vs : List AV} (h : resultsOf P G s fn.results.toList = some vs) : ∃ u, (results fn a.tmps).run P w = .ok u w ∧ Rep (rc E L (obOf s.env s.heap) s.heap.length w) (packR vs) u := by
  obtain ⟨us, hus, hr⟩ := results_run F h
  have hm : (fn.results.mapM (m := Sem) fun r => match r with | .tmp t => pure (a.tmps.getD t undef) | .cell x t => do loadVar t (← asAddr (a.tmps.getD x undef))).run P w = .ok us.toArray w := by
    rw [Array.mapM_eq_mapM_toList]
    simp only [Sem.run_map, hus]
    rfl
  have hfin : ∀ hx : ∀ _ : us.toArray.size = 1, True, Rep (rc E L (obOf s.env s.heap) s.heap.length w) (packR vs) (if h : us.toArray.size = 1 then us.toArray[0] else .tuple us.toArray) := by
    intro _
    match vs, us, hr with
    | [], us, hr =>
      have : us = [] := List.eq_nil_of_length_eq_zero hr.1
      subst this
      exact .tup [] [] hr.1 hr.2
    | [v], us, hr =>
      obtain ⟨c, us, rfl, h1, h2⟩ := hr.uncons
      have : us = [] := List.eq_nil_of_length_eq_zero h2.1
      subst this
      exact h1
    | v :: v2 :: vs, us, hr =>
      obtain ⟨c, us, rfl, h1, h2⟩ := hr.uncons
      obtain ⟨c2, us, rfl, h3, h4⟩ := h2.uncons
      rw [dif_neg (by simp)]
      exact .tup _ _ hr.1 hr.2
  refine ⟨_, ?_, hfin (fun _ => trivial)⟩
  unfold results
  simp only [Sem.run_bind]
  erw [hm]
  rfl

theorem body_sound (C : CfgOk P G) {n : Nat} {X : FuncId → Code → St → Option (AExit × St)} (HX : ExecOk P G n X) {g : FuncId} {args : List AV} {h h' : Heap} {v : AV} (hb : bodyOf P G X g args h = some (v, h')) : HeapCall P G g args h v h' := by
  unfold bodyOf at hb
  split at hb <;> try cases hb
  rename_i fn hfn
  split at hb <;> try cases hb
  rename_i c hc
  split at hb <;> try cases hb
  rename_i hcond
  simp only [Bool.or_eq_true, decide_eq_true_eq, Bool.not_eq_true', not_or, Bool.not_eq_false, ne_eq, Decidable.not_not] at hcond
  obtain ⟨hlen, hgood⟩ := hcond
  have hok := C.good g hgood
  simp only [fnOk, hfn, hc, Bool.and_eq_true, decide_eq_true_eq, Bool.not_eq_true', beq_eq_false_iff_ne, ne_eq] at hok
  obtain ⟨⟨hcode, hsz⟩, hname⟩ := hok
  refine ⟨fun cargs W => ?_, fun E L w vs H hr => ?_⟩
  · simp [callFunc, hfn, hname, hc]
  · have hvl : vs.length = fn.params.size + fn.nfree := by rw [hr.1, hlen]
    have hob := args_ob hr h
    refine calls_of_wp hfn hc ?_
    generalize ha : ({ tmps := vs.toArray ++ Array.replicate (fn.ntmps - vs.toArray.size) undef, defers := [] } : Act) = a
    have hasz : a.tmps.size = fn.ntmps := by rw [← ha]; simp; omega
    have F : FS P G E g L ⟨envOf args 0, h⟩ a w := by
      refine ⟨by show HS P G E L (obOf (envOf args 0) h) h.length w; rw [hob]; exact H, ?_, ?_, by rw [← ha], fun t cs he => absurd he (args_nobox hr t cs)⟩
      · show ERep (rc E L (obOf (envOf args 0) h) h.length w) (envOf args 0) a
        rw [hob]
        intro t ht
        rw [envOf_get]
        simp only [Nat.zero_le, if_true, Nat.sub_zero]
        by_cases hta : t < args.length
        · have h1 := hr.2 t hta
          have h2 : args.getD t .undef = args[t] := by simp [hta]
          have h3 : a.tmps.getD t undef = vs.getD t undef := by
            rw [← ha]
            have : t < vs.length := by rw [hr.1]; exact hta
            simp [Array.getElem?_append, this]
          rw [h2, h3]
          exact .inl (.inl h1)
        · have h2 : args.getD t .undef = .undef := by simp [Nat.not_lt.1 hta]
          rw [h2]
          exact .inl (.inl (.undef _))
      · intro t ht
        show envOf args 0 t = .undef
        rw [envOf_get]
        simp only [Nat.zero_le, if_true, Nat.sub_zero]
        have : args.length ≤ t := by omega
        simp [this]
    have fin : ∀ (s1 : St), (resultsOf P G s1 fn.results.toList).map (fun vs => (packR vs, s1.heap)) = some (v, h') → ∀ L' a' w', FS P G E g L' s1 a' w' → PgS E L ⟨envOf args 0, h⟩ w L' s1 w' →
        a'.defers = [] ∧ ∃ u, (results fn a'.tmps).run P w' = .ok u w' ∧ ∃ c L', Ending.returned u = .returned c ∧ HS P G E L' (obOf Env.empty h') h'.length w' ∧ Pg E L (obOf Env.empty h) h.length w L' (obOf Env.empty h') h'.length w' ∧ Rep (rc E L' (obOf Env.empty h') h'.length w') v c := by
      intro s1 hs1 L' a' w' F' hp
      obtain ⟨rs, hrs, he⟩ := Option.map_eq_some_iff.1 hs1
      simp only [Prod.mk.injEq] at he
      obtain ⟨rfl, rfl⟩ := he
      obtain ⟨u, hu, hrep⟩ := results_ok F' hrs
      obtain ⟨H2, p2⟩ := F'.hs.drop (e' := Env.empty) (fun b cs he => by cases he)
      have hp : Pg E L (obOf (envOf args 0) h) h.length w L' (obOf s1.env s1.heap) s1.heap.length w' := hp
      rw [hob] at hp
      exact ⟨F'.dfr, u, hu, u, L', rfl, H2, hp.trans p2, hrep.mono p2.le⟩
    split at hb
    · rename_i s1 hx
      exact HX.1 g c _ _ _ hx E L a w (by rw [hasz]; exact hcode) F _ fun L' a' w' F' hp _ => fin s1 hb L' a' w' F' hp
    · rename_i s1 hx
      exact HX.1 g c _ _ _ hx E L a w (by rw [hasz]; exact hcode) F _ fun L' a' w' F' hp _ => fin s1 hb L' a' w' F' hp
    · cases hb

theorem caller_sound (C : CfgOk P G) {n : Nat} {X : FuncId → Code → St → Option (AExit × St)} (HX : ExecOk P G n X) : KOk P G (callerOf P G X) := by
  refine ⟨fun g args h v h' hap hk => ?_, fun g args v h' hap hk => ?_⟩
  · simp only [apartF, Bool.or_eq_false_iff, Option.isSome_eq_false_iff, Option.isNone_iff_eq_none] at hap
    simp only [callerOf, hap.1, hap.2, Bool.false_eq_true, if_false] at hk
    split at hk
    · rename_i p hp
      exact C.hprim g p args h v h' hp hk
    · exact body_sound C HX hk
  · unfold callerOf at hk
    split at hk
    · rename_i p hp
      split at hk <;> try cases hk
      rename_i av hav
      obtain ⟨v', hv, he⟩ := Option.map_eq_some_iff.1 hk
      simp only [Prod.mk.injEq] at he
      obtain ⟨rfl, rfl⟩ := he
      obtain ⟨hen, hc⟩ := C.prim g p av v' hp hv
      exact ⟨hen, fun E L ob len w vs H hr => hc E L ob len w vs H (eraseL_ok (fun _ _ h => h) (RGood.none _ _) hav hr)⟩
    · rename_i hp
      have hpure : G.pure g = true := by
        simp only [apartF, hp, Option.isSome_none, Bool.or_false] at hap
        exact hap
      rw [if_pos hpure] at hk
      split at hk <;> try cases hk
      rename_i av hav
      split at hk <;> try cases hk
      rename_i r h1 hb
      obtain ⟨v', hv, he⟩ := Option.map_eq_some_iff.1 hk
      simp only [Prod.mk.injEq] at he
      obtain ⟨rfl, rfl⟩ := he
      obtain ⟨hen, hc⟩ := body_sound C HX hb
      refine ⟨hen, fun E L ob len w vs H hr => ?_⟩
      obtain ⟨H0, hS0⟩ := H.apart C.glob
      refine (hc _ L w vs H0 (eraseL_ok hS0 (RGood.none _ _) hav hr)).mono fun e w' ⟨c, L', he, H', hp, hrep⟩ => ⟨c, he, ?_, ?_⟩
      · refine hp.fr.mono ?_
        rintro g' ⟨k, o, hk, _⟩
        rw [nil_ob] at hk
        cases hk
      · refine erase_ok (X := rc (Un E L ob) L' (obOf Env.empty h1) h1.length w') (Y := rc E L ob len w') (fun a v ⟨h1, h2, h3⟩ => ⟨h1, fun hu => h2 (.inl hu), h3⟩) (resH_good H' E L ob len (fun _ _ hu => hu) 8) hrep _ hv

theorem exec_sound (C : CfgOk P G) : ∀ n, ExecOk P G n (exec P G n)
  | 0 => ⟨fun f c s ex s' h => by simp [exec] at h, fun f b s ex s' h => by simp [exec] at h⟩
  | n + 1 => level_sound C (caller_sound C (exec_sound C n)) (exec_sound C n)

/-- What the interpreter says of a call over a heap. -/
theorem run_sound (C : CfgOk P G) {n : Nat} {g : FuncId} {args : List AV} {h h' : Heap} {v : AV} (hb : bodyOf P G (exec P G n) g args h = some (v, h')) : HeapCall P G g args h v h' := body_sound C (exec_sound C n) hb

/-- What the interpreter says of a call with plain data. -/
theorem plain_sound (C : CfgOk P G) {n : Nat} {g : FuncId} {args : List AV} {h' : Heap} {v : AV} (hap : apartF G g = true) (hk : callerOf P G (exec P G n) g args [] = some (v, h')) : PlainCall P G g args v := (caller_sound C (exec_sound C n)).2 g args v h' hap hk
end
end Go.Proofs.YtdnhhdplcminlaaGreatDoor.AI
