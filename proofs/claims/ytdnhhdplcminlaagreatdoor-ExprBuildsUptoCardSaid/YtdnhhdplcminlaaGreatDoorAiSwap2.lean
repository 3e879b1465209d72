/- Two operations that no edge orders, swapped; an operation that is ready is carried out first. -/
import Derived.Test.YtdnhhdplcminlaaGreatDoorAiSwap
set_option maxHeartbeats 400000
set_option linter.unusedVariables false
set_option linter.unusedSimpArgs false
set_option linter.unusedSectionVars false
namespace Go.Proofs.YtdnhhdplcminlaaGreatDoor.AI
variable [Nu]

section
variable {P : Program} {G : Cfg} {K : Caller} {f : FuncId} {ops : Array Oper} {n : Nat}

def Off (d : Option Nat) (e e' : Env) : Prop := ∀ t, d ≠ some t → e' t = e t ∨ ∃ cs cs', e t = .box cs ∧ e' t = .box cs'
theorem Off.symm {d : Option Nat} {e e' : Env} (h : Off d e e') : Off d e' e := by
  intro t ht
  rcases h t ht with h | ⟨cs, cs', h1, h2⟩
  · exact .inl h.symm
  · exact .inr ⟨cs', cs, h2, h1⟩

theorem put_ne {e : Env} {d : Option Nat} {v : AV} {t : Nat} (h : d ≠ some t) : e.put d v t = e t := by
  cases d with
  | none => rfl
  | some u =>
    have : t ≠ u := fun he => h (by rw [he])
    simp [Env.put, Env.upd, this]
theorem put_eq {e : Env} {t : Nat} {v : AV} : e.put (some t) v t = v := by simp [Env.put, Env.upd]

theorem apply_off {o : Oper} {s : St} {x : Eff} (hx : effO P G K f ops o s = some x) : Off o.dst s.env (x.apply o s).env := by
  intro t ht
  cases x with
  | val v => exact .inl (put_ne ht)
  | heap h v => exact .inl (put_ne ht)
  | wbox b cs =>
    obtain ⟨ds, hb⟩ := effO_wbox hx
    show (s.env.upd b (.box cs)).put o.dst .undef t = _ ∨ _
    rw [show (Eff.apply o s (.wbox b cs)).env t = (s.env.upd b (.box cs)).put o.dst .undef t from rfl, put_ne ht]
    simp only [Env.upd]
    by_cases htb : t = b
    · subst htb; rw [if_pos rfl]; exact .inr ⟨ds, cs, hb, rfl⟩
    · rw [if_neg htb]; exact .inl rfl

theorem agree_off {x o : Oper} {e e' : Env} (h : Off x.dst e e') (h1 : ∀ d, x.dst = some d → d ∉ o.looksAt ops) (h2 : ∀ d, x.dst = some d → o.dst ≠ some d) : Agree G ops o e e' := by
  refine ⟨fun y hy => ?_, ?_, fun d hd he => ?_⟩
  · cases y with
    | tmp t =>
      have ht : x.dst ≠ some t := fun hd => h1 t hd (List.mem_append_left _ (List.mem_filterMap.2 ⟨.tmp t, by simpa using hy, rfl⟩))
      simp only [evalO]
      rcases h t ht with h | ⟨cs, cs', h3, h4⟩
      · rw [h]
      · rw [h3, h4]
    | _ => rfl
  · unfold guardOf
    cases hg : o.guard with
    | none => rfl
    | some q =>
      obtain ⟨j, w⟩ := q
      simp only
      cases ht : (ops[j]?).bind (·.dst) with
      | none => rfl
      | some t =>
        have hne : x.dst ≠ some t := fun hd => h1 t hd (by simp [Oper.looksAt, hg, ht])
        simp only
        rcases h t hne with h | ⟨cs, cs', h3, h4⟩
        · rw [h]
        · rw [h3, h4]
  · have hne : x.dst ≠ some d := fun hx => h2 d hx hd
    rcases h d hne with h | ⟨cs, cs', h3, h4⟩
    · rw [h]; exact he
    · rw [h3] at he; cases he

theorem put_comm {e : Env} {c d : Option Nat} {u v : AV} (h : ∀ t, c = some t → d ≠ some t) : (e.put c u).put d v = (e.put d v).put c u := by
  cases c with
  | none => rfl
  | some a =>
    cases d with
    | none => rfl
    | some b =>
      have hab : a ≠ b := fun he => h a rfl (by rw [he])
      funext t
      simp only [Env.put, Env.upd]
      by_cases h1 : t = a
      · subst h1; simp [hab]
      · simp [h1]

theorem upd_put {e : Env} {b : Nat} {d : Option Nat} {u v : AV} (h : d ≠ some b) : (e.put d v).upd b u = (e.upd b u).put d v := by
  have := put_comm (e := e) (c := d) (d := some b) (u := v) (v := u) (fun t ht he => h (by rw [ht, he]))
  exact this

theorem apply_put {o : Oper} {s : St} {x : Eff} {d : Option Nat} {u : AV} (h1 : ∀ b cs, x = .wbox b cs → d ≠ some b) (h2 : ∀ t, d = some t → o.dst ≠ some t) :
    x.apply o ⟨s.env.put d u, s.heap⟩ = ⟨(x.apply o s).env.put d u, (x.apply o s).heap⟩ := by
  cases x with
  | val v => show (⟨_, _⟩ : St) = ⟨_, _⟩; rw [put_comm h2]; rfl
  | heap h v => show (⟨_, _⟩ : St) = ⟨_, _⟩; rw [put_comm h2]; rfl
  | wbox b cs =>
    show (⟨((s.env.put d u).upd b (.box cs)).put o.dst .undef, s.heap⟩ : St) = ⟨((s.env.upd b (.box cs)).put o.dst .undef).put d u, s.heap⟩
    rw [upd_put (h1 b cs rfl), put_comm h2]

theorem cls_var {o : Oper} (hv : isVar o = true) {d : Nat} (hd : o.dst = some d) : (clsOf G f o = .var ∧ G.esc f d = false) ∨ (clsOf G f o = .write ∧ G.esc f d = true) := by
  unfold isVar at hv
  cases he : G.esc f d <;> split at hv <;> first | (cases hv; done) | (rename_i hop; simp [clsOf, hop, hd, he])

theorem var_cls {o : Oper} (h : clsOf G f o = .var) : isVar o = true ∧ ∃ d, o.dst = some d ∧ G.esc f d = false := by
  unfold clsOf at h
  split at h <;> try cases h
  all_goals try (rename_i hop; split at h <;> first | (cases h; done) | (rename_i d hd; split at h <;> first | (cases h; done) | (rename_i he; exact ⟨by simp [isVar, hop], d, hd, by simpa using he⟩)); done)

theorem var_undef {o : Oper} {s : St} {x : Eff} {d : Nat} (hv : isVar o = true) (hd : o.dst = some d) (he : G.esc f d = false) (hx : effO P G K f ops o s = some x) : s.env d = .undef ∧ ∃ v, x = .val v := by
  have hc : clsOf G f o = .var := by
    rcases cls_var (G := G) (f := f) hv hd with h | h
    · exact h.1
    · rw [he] at h; cases h.2
  refine ⟨?_, effO_val (by rw [hc]; simp) hx⟩
  have hnc : isCall o = false := by
    unfold isVar at hv
    split at hv <;> first | (cases hv; done) | (rename_i hop; simp [isCall, hop])
  unfold effO at hx
  rw [hv, hnc] at hx
  split at hx <;> try cases hx
  simp only [Bool.false_eq_true, if_false] at hx
  unfold aop at hx
  unfold isVar at hv
  split at hv <;> first | (cases hv; done) | skip
  · rename_i hop
    simp only [hop, hd] at hx
    split at hx <;> try cases hx
    rename_i hd'
    cases hd'
    split at hx <;> try cases hx
    rw [he] at hx
    simp only [Bool.false_eq_true, if_false] at hx
    split at hx <;> first | assumption | cases hx
  · rename_i hop
    simp only [hop, hd] at hx
    split at hx <;> try cases hx
    rename_i hd'
    cases hd'
    split at hx <;> try cases hx
    rw [he] at hx
    simp only [Bool.false_eq_true, if_false] at hx
    split at hx <;> first | assumption | cases hx

theorem var_write {o : Oper} {s : St} {v : AV} {d : Nat} (hv : isVar o = true) (hd : o.dst = some d) (he : G.esc f d = true) : effO P G K f ops o s ≠ some (.val v) := by
  intro hx
  have hnc : isCall o = false := by
    unfold isVar at hv
    split at hv <;> first | (cases hv; done) | (rename_i hop; simp [isCall, hop])
  unfold effO at hx
  rw [hv, hnc] at hx
  split at hx <;> try cases hx
  simp only [Bool.false_eq_true, if_false] at hx
  unfold aop at hx
  unfold isVar at hv
  split at hv <;> first | (cases hv; done) | skip
  · rename_i hop
    simp only [hop, hd] at hx
    split at hx <;> try cases hx
    rename_i hd'
    cases hd'
    repeat' (split at hx <;> try cases hx)
    all_goals simp_all
  · rename_i hop
    simp only [hop, hd] at hx
    split at hx <;> try cases hx
    rename_i hd'
    cases hd'
    repeat' (split at hx <;> try cases hx)
    all_goals simp_all

theorem opOk_boxes {o : Oper} (h : opOk G f n o = true) {d : Nat} (hd : o.dst = some d) : G.boxes f d = (isVar o && !G.esc f d) := by
  simp only [opOk, hd, Bool.and_eq_true, decide_eq_true_eq, beq_iff_eq] at h
  exact h.1.2

theorem step_some {o : Oper} {s s1 : St} (h : stepO P G K f ops o s = some s1) : ∃ x, effO P G K f ops o s = some x ∧ effPlain o x = true ∧ s1 = x.apply o s := by
  unfold stepO at h
  split at h <;> try cases h
  rename_i x hx
  split at h <;> try cases h
  exact ⟨x, hx, by assumption, rfl⟩
theorem step_of {o : Oper} {s : St} {x : Eff} (h : effO P G K f ops o s = some x) (hp : effPlain o x = true) : stepO P G K f ops o s = some (x.apply o s) := by
  unfold stepO
  rw [h]
  simp [hp]

/-- A temporary that is put is no variable of the frame. -/
theorem dst_nobox {o : Oper} {s : St} {x : Eff} (ho : opOk G f n o = true) (hbx : BX G f s.env) (hx : effO P G K f ops o s = some x) {d : Nat} (hd : o.dst = some d) (cs : List AV) : s.env d ≠ .box cs := by
  intro hb
  have h1 := hbx d cs hb
  rw [opOk_boxes ho hd] at h1
  simp only [Bool.and_eq_true, Bool.not_eq_true'] at h1
  have := (var_undef h1.1 hd h1.2 hx).1
  rw [hb] at this
  cases this

theorem step_bx {o : Oper} {s s1 : St} (ho : opOk G f n o = true) (hbx : BX G f s.env) (h : stepO P G K f ops o s = some s1) : BX G f s1.env := by
  obtain ⟨x, hx, hp, rfl⟩ := step_some h
  intro t cs ht
  by_cases hd : o.dst = some t
  · rw [opOk_boxes ho hd]
    cases x with
    | val v =>
      have hv : v = .box cs := by
        have : (s.env.put o.dst v) t = .box cs := ht
        rwa [hd, put_eq] at this
      subst hv
      simp only [effPlain, nobox, Bool.or_false] at hp
      rw [hp]
      cases he : G.esc f t with
      | false => rfl
      | true => exact absurd hx (var_write hp hd he)
    | heap h' v =>
      have hv : v = .box cs := by
        have : (s.env.put o.dst v) t = .box cs := ht
        rwa [hd, put_eq] at this
      subst hv
      simp [effPlain, nobox] at hp
    | wbox b ds =>
      have : ((s.env.upd b (.box ds)).put o.dst .undef) t = .box cs := ht
      rw [hd, put_eq] at this
      cases this
  · rcases apply_off hx t hd with h | ⟨cs1, cs2, h1, h2⟩
    · exact hbx t cs (by rw [← h]; exact ht)
    · exact hbx t cs1 h1

theorem fresh_eff {o : Oper} {s : St} {x : Eff} (hf : isFresh G f o = true) (hx : effO P G K f ops o s = some x) : ∃ z v, x = .heap (s.heap ++ [z]) v := by
  simp only [isFresh, Bool.and_eq_true] at hf
  obtain ⟨hv, he⟩ := hf
  have hnc : isCall o = false := by
    unfold isVar at hv
    split at hv <;> first | (cases hv; done) | (rename_i hop; simp [isCall, hop])
  unfold effO at hx
  rw [hv, hnc] at hx
  split at hx <;> try cases hx
  simp only [Bool.false_eq_true, if_false] at hx
  split at he <;> try cases he
  rename_i d hd
  unfold aop at hx
  unfold isVar at hv
  split at hv <;> first | (cases hv; done) | skip
  · rename_i hop
    simp only [hop, hd] at hx
    split at hx <;> try cases hx
    rename_i hd'
    cases hd'
    repeat' (split at hx <;> try cases hx)
    all_goals first
      | exact ⟨_, _, rfl⟩
      | (simp_all; done)
  · rename_i hop
    simp only [hop, hd] at hx
    split at hx <;> try cases hx
    rename_i hd'
    cases hd'
    repeat' (split at hx <;> try cases hx)
    all_goals first
      | exact ⟨_, _, rfl⟩
      | (simp_all; done)

theorem get_push {h : Heap} {z : Option AObj} {id : Nat} {o : AObj} (hg : h[id]? = some (some o)) : (h ++ [z])[id]? = some (some o) := by
  have := (List.getElem?_eq_some_iff.1 hg).1
  rw [List.getElem?_append_left this]
  exact hg

theorem readP_push {e : Env} {h : Heap} {z : Option AObj} {p : AV} {n : Nat} {cs : List AV} (hr : readP e h p n = some cs) : readP e (h ++ [z]) p n = some cs := by
  unfold readP at hr ⊢
  split at hr <;> try exact hr
  split at hr <;> try cases hr
  rename_i hg
  rw [get_push hg]
  exact hr

theorem mapE_push {h : Heap} {z : Option AObj} {m : AV} {es : List (AV × AV)} (hes : mapE h m = some es) : mapE (h ++ [z]) m = some es := by
  unfold mapE at hes ⊢
  split at hes
  · exact hes
  · split at hes <;> try cases hes
    rename_i hg
    rw [get_push hg]
  · cases hes

theorem lookup_push {h : Heap} {z : Option AObj} {t : TypeId} {m k v : AV} {ok : Bool} (hl : aLookup P t h m k ok = some v) : aLookup P t (h ++ [z]) m k ok = some v := by
  unfold aLookup at hl ⊢
  split at hl <;> try cases hl
  split at hl <;> try cases hl
  rename_i hf
  rw [if_neg hf]
  split at hl <;> try cases hl
  rename_i es hes
  rw [mapE_push hes]
  exact hl

theorem read_op {o : Oper} (hc0 : clsOf G f o = .read) : (∃ t y, o.op = .load t y) ∨ ∃ t m k ok, o.op = .lookup t m k ok := by
  unfold clsOf at hc0
  split at hc0 <;> try cases hc0
  all_goals try (rename_i hop; first | exact .inl ⟨_, _, hop⟩ | exact .inr ⟨_, _, _, _, hop⟩)
  all_goals repeat' (split at hc0 <;> try cases hc0)

theorem aop_push {o : Oper} {e : Env} {h : Heap} {z : Option AObj} {x : Eff} (hc0 : clsOf G f o = .read) (hx : aop P G f e h o = some x) : aop P G f e (h ++ [z]) o = some x := by
  rcases read_op hc0 with ⟨t, y, hop⟩ | ⟨t, m, k, ok, hop⟩
  · simp only [aop, hop] at hx ⊢
    split at hx <;> try cases hx
    split at hx <;> try cases hx
    rename_i hr
    rw [readP_push hr]
    exact hx
  · simp only [aop, hop] at hx ⊢
    obtain ⟨v, hv, rfl⟩ := Option.map_eq_some_iff.1 hx
    rw [lookup_push hv]
    rfl

theorem effO_push {o : Oper} {e : Env} {h : Heap} {z : Option AObj} {x : Eff} (hc0 : clsOf G f o = .read) (hx : effO P G K f ops o ⟨e, h⟩ = some x) : effO P G K f ops o ⟨e, h ++ [z]⟩ = some x := by
  have hnc : isCall o = false := by
    rcases read_op hc0 with ⟨t, y, hop⟩ | ⟨t, m, k, ok, hop⟩ <;> simp [isCall, hop]
  unfold effO at hx ⊢
  simp only [hnc, Bool.false_eq_true, if_false] at hx ⊢
  cases hg : guardOf ops e o with
  | none => simp only [hg] at hx; cases hx
  | some b =>
    cases b with
    | false => simp only [hg] at hx ⊢; exact hx
    | true => simp only [hg] at hx ⊢; exact aop_push hc0 hx

theorem swap {x o : Oper} (hp : pairOk G f ops x o = true) (kx : opOk G f n x = true) (ko : opOk G f n o = true) {s s1 s2 : St} (hbx : BX G f s.env) (h1 : stepO P G K f ops x s = some s1) (h2 : stepO P G K f ops o s1 = some s2) :
    ∃ s1', stepO P G K f ops o s = some s1' ∧ stepO P G K f ops x s1' = some s2 := by
  obtain ⟨ex, hex, px, rfl⟩ := step_some h1
  obtain ⟨eo, heo, po, rfl⟩ := step_some h2
  simp only [pairOk, Bool.and_eq_true] at hp
  obtain ⟨hap, hcls⟩ := hp
  obtain ⟨a1, a2, a3⟩ := Oper.apart_spec hap
  have a2' : ∀ d, o.dst = some d → x.dst ≠ some d := fun d hd hx => a2 d hx hd
  have hcases : (clsOf G f o = .indep ∨ clsOf G f o = .var) ∨ clsOf G f x = .indep ∨ (clsOf G f x = .read ∧ (clsOf G f o = .read ∨ isFresh G f o = true)) := by
    cases hc : clsOf G f o <;> simp only [hc] at hcls
    · exact .inl (.inl rfl)
    · exact .inl (.inr rfl)
    · simp only [Bool.or_eq_true, beq_iff_eq] at hcls
      rcases hcls with h | h
      · exact .inr (.inl h)
      · exact .inr (.inr ⟨h, .inl rfl⟩)
    · simp only [Bool.or_eq_true, Bool.and_eq_true, beq_iff_eq] at hcls
      rcases hcls with h | h
      · exact .inr (.inl h)
      · exact .inr (.inr ⟨h.1, .inr h.2⟩)
  have notvar : ∀ (y : Oper), clsOf G f y = .indep ∨ clsOf G f y = .read → isVar y = true → False := by
    intro y hy hv
    unfold isVar at hv
    split at hv <;> first | (cases hv; done) | skip
    all_goals
      rename_i hop
      simp only [clsOf, hop] at hy
      split at hy
      · split at hy <;> simp at hy
      · simp at hy
  -- the later one, ahead
  have e1 : effO P G K f ops o s = some eo := by
    have ag : Agree G ops o (ex.apply x s).env s.env := agree_off (apply_off hex).symm a1 a2
    rcases hcases with hc | hc
    · exact effO_indep hc ag heo
    · have hxc : clsOf G f x = .indep ∨ clsOf G f x = .read := by rcases hc with h | h; exact .inl h; exact .inr h.1
      obtain ⟨v, rfl⟩ := effO_val (by rcases hxc with h | h <;> rw [h] <;> simp) hex
      refine effO_agree ag (fun t cs ht => ?_) heo
      have ht : (s.env.put x.dst v) t = .box cs := ht
      by_cases hd : x.dst = some t
      · rw [hd, put_eq] at ht
        subst ht
        simp only [effPlain, nobox, Bool.or_false] at px
        exact (notvar x hxc px).elim
      · rwa [put_ne hd] at ht
  have p1 := step_of e1 po
  refine ⟨_, p1, ?_⟩
  have e2 : effO P G K f ops x (eo.apply o s) = some ex := by
    have ag : Agree G ops x s.env (eo.apply o s).env := agree_off (apply_off e1) a3 a2'
    rcases hcases with hc | hc | hc
    · obtain ⟨u, rfl⟩ := effO_val (by rcases hc with h | h <;> rw [h] <;> simp) e1
      refine effO_agree ag (fun t cs ht => ?_) hex
      show (s.env.put o.dst u) t = _
      have hd : o.dst ≠ some t := fun hd => dst_nobox ko hbx e1 hd cs ht
      rw [put_ne hd]
      exact ht
    · exact effO_indep (.inl hc) ag hex
    · rcases hc.2 with hc2 | hc2
      · obtain ⟨u, rfl⟩ := effO_val (by rw [hc2]; simp) e1
        refine effO_agree ag (fun t cs ht => ?_) hex
        show (s.env.put o.dst u) t = _
        have hd : o.dst ≠ some t := fun hd => dst_nobox ko hbx e1 hd cs ht
        rw [put_ne hd]
        exact ht
      · obtain ⟨z, u, rfl⟩ := fresh_eff hc2 e1
        refine effO_push hc.1 (effO_agree ag (fun t cs ht => ?_) hex)
        show (s.env.put o.dst u) t = _
        have hd : o.dst ≠ some t := fun hd => dst_nobox ko hbx e1 hd cs ht
        rw [put_ne hd]
        exact ht
  rw [step_of e2 px]
  have hv : (∃ v, ex = .val v) ∨ ∃ u, eo = .val u := by
    rcases hcases with hc | hc | hc
    · exact .inr (effO_val (by rcases hc with h | h <;> rw [h] <;> simp) e1)
    · exact .inl (effO_val (by rw [hc]; simp) hex)
    · exact .inl (effO_val (by rw [hc.1]; simp) hex)
  rcases hv with ⟨v, rfl⟩ | ⟨u, rfl⟩
  · have := apply_put (o := o) (s := s) (x := eo) (d := x.dst) (u := v) (fun b cs hb => by
      subst hb
      obtain ⟨ds, hd⟩ := effO_wbox e1
      exact fun hx => dst_nobox kx hbx hex hx ds hd) (fun t ht => a2 t ht)
    exact congrArg some this.symm
  · have := apply_put (o := x) (s := s) (x := ex) (d := o.dst) (u := u) (fun b cs hb => by
      subst hb
      obtain ⟨ds, hd⟩ := effO_wbox hex
      exact fun hx => dst_nobox ko hbx e1 hx ds hd) (fun t ht => a2' t ht)
    exact congrArg some this

/-- An operation that may come first, carried out first. -/
theorem ahead {o : Oper} (ko : opOk G f n o = true) : ∀ (l1 l2 : List Oper) (s sf : St), BX G f s.env → (∀ x ∈ l1, pairOk G f ops x o = true ∧ opOk G f n x = true) → runL P G K f ops (l1 ++ o :: l2) s = some sf →
    ∃ s1, stepO P G K f ops o s = some s1 ∧ runL P G K f ops (l1 ++ l2) s1 = some sf
  | [], l2, s, sf, _, _, h => by
    simp only [List.nil_append, runL] at h ⊢
    split at h <;> try cases h
    rename_i s' hs
    exact ⟨s', hs, h⟩
  | x :: l1, l2, s, sf, hbx, hx, h => by
    simp only [List.cons_append, runL] at h
    split at h <;> try cases h
    rename_i s' hs
    have hx0 := hx x (by simp)
    obtain ⟨s1, h1, h2⟩ := ahead ko l1 l2 s' sf (step_bx hx0.2 hbx hs) (fun y hy => hx y (by simp [hy])) h
    obtain ⟨s1', h3, h4⟩ := swap hx0.1 hx0.2 ko hbx hs h1
    exact ⟨s1', h3, by simp only [List.cons_append, runL, h4]; exact h2⟩
end
end Go.Proofs.YtdnhhdplcminlaaGreatDoor.AI
