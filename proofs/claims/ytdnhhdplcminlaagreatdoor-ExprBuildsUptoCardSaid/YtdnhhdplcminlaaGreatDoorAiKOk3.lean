/- The calculus says what the interpreter says: regions, code, loops, calls. -/
import Derived.Test.YtdnhhdplcminlaaGreatDoorAiKOk2
set_option maxHeartbeats 400000
set_option linter.unusedVariables false
set_option linter.unusedSimpArgs false
set_option linter.unusedSectionVars false
namespace Go.Proofs.YtdnhhdplcminlaaGreatDoor.AI

def PathOk (g : GE) (keys : List Nat) (p : Path) : Prop := ∀ x ∈ p, inL x.1 keys = true ∧ (g x.1).v = .bool x.2.2

structure GInv (g : GE) (keys : List Nat) (e : Env) : Prop where
  env : ∀ t, e t = if pathB (g t).p then (g t).v else .skip
  path : ∀ t, PathOk g keys (g t).p
  box : ∀ t cs, (g t).v = .box cs → (g t).p = []
  keys : ∀ t, inL t keys = true → ∃ b, (g t).v = .bool b

theorem samePath_eq {g : GE} {keys : List Nat} : ∀ {q p : Path}, samePath q p = true → PathOk g keys q → PathOk g keys p → q = p
  | [], [], _, _, _ => rfl
  | [], _ :: _, h, _, _ => by simp [samePath] at h
  | _ :: _, [], h, _, _ => by simp [samePath] at h
  | (t, w, b) :: q, (t', w', b') :: p, h, hq, hp => by
    simp only [samePath, Bool.and_eq_true] at h
    obtain ⟨h1, h2, h3⟩ := h
    have ht : t = t' := Nat.eq_of_beq_eq_true h1
    subst ht
    have hw : w = w' := by cases w <;> cases w' <;> simp_all [sameB]
    subst hw
    have e1 := (hq (t, w, b) (by simp)).2
    have e2 := (hp (t, w, b') (by simp)).2
    simp only at e1 e2
    rw [e1] at e2
    cases e2
    rw [samePath_eq h3 (fun x hx => hq x (by simp [hx])) (fun x hx => hp x (by simp [hx]))]

theorem sufOk_true {g : GE} {keys : List Nat} {q : Path} (hq : PathOk g keys q) : ∀ {p : Path}, sufOk q p = true → PathOk g keys p → pathB p = true → pathB q = true
  | [], h, hp, hb => by
    unfold sufOk at h
    rw [samePath_eq h hq hp]
    exact hb
  | x :: r, h, hp, hb => by
    simp only [sufOk, Bool.or_eq_true] at h
    rcases h with h | h
    · rw [samePath_eq h hq hp]
      exact hb
    · obtain ⟨t, w, b⟩ := x
      simp only [pathB, Bool.and_eq_true] at hb
      exact sufOk_true hq h (fun x hx => hp x (by simp [hx])) hb.2

theorem inL_cons {t u : Nat} {l : List Nat} (h : inL t l = true) : inL t (u :: l) = true := by simp [inL, h]

theorem PathOk.cons {g : GE} {keys : List Nat} {t : Nat} {p : Path} (h : PathOk g keys p) : PathOk g (t :: keys) p := fun x hx => ⟨inL_cons (h x hx).1, (h x hx).2⟩

theorem path_of {ops : Array Oper} {g : GE} {keys keys' : List Nat} {o : Oper} {p : Path} {e : Env} (h : pathOf ops g keys o = some (p, keys')) (I : GInv g keys e) : guardOf ops e o = some (pathB p) ∧ PathOk g keys' p ∧ GInv g keys' e := by
  unfold pathOf at h
  unfold guardOf
  split at h
  · rename_i hg
    simp only [Option.some.injEq, Prod.mk.injEq] at h
    obtain ⟨rfl, rfl⟩ := h
    exact ⟨by rw [hg]; rfl, (fun x hx => by cases hx), I⟩
  · rename_i j w hg
    split at h <;> try cases h
    rename_i t ht
    split at h <;> try cases h
    rename_i b hb
    rw [hg]
    have he := I.env t
    refine ⟨?_, ?_, ⟨I.env, fun t => (I.path t).cons, I.box, ?_⟩⟩
    · simp only [ht, he, hb]
      by_cases hp : pathB (g t).p = true
      · simp only [hp, if_true, pathB, Bool.and_true]
        cases b <;> cases w <;> rfl
      · simp only [hp, Bool.false_eq_true, if_false, pathB, Bool.and_false]
    · intro x hx
      rcases List.mem_cons.1 hx with rfl | hx
      · exact ⟨by simp [inL], hb⟩
      · exact (I.path t).cons x hx
    · intro u hu
      simp only [inL, Bool.or_eq_true] at hu
      rcases hu with hu | hu
      · rw [Nat.eq_of_beq_eq_true hu]; exact ⟨b, hb⟩
      · exact I.keys u hu

theorem GE.upd_eq (g : GE) (t : Nat) (x : GV) : g.upd t x t = x := by simp [GE.upd]
theorem GE.upd_ne (g : GE) {t u : Nat} (x : GV) (h : u ≠ t) : g.upd t x u = g u := by
  have : Nat.beq u t = false := by
    cases hb : Nat.beq u t with
    | false => rfl
    | true => exact absurd (Nat.eq_of_beq_eq_true hb) h
  simp [GE.upd, this]

theorem GInv.upd {g : GE} {keys : List Nat} {e : Env} (I : GInv g keys e) {d : Nat} (hd : inL d keys = false) {p : Path} (hp : PathOk g keys p) {v : AV} (hb : ∀ cs, v = .box cs → p = []) : GInv (g.upd d ⟨p, v⟩) keys (e.upd d (if pathB p then v else .skip)) := by
  have hpath : ∀ q, PathOk g keys q → PathOk (g.upd d ⟨p, v⟩) keys q := fun q hq x hx => by
    obtain ⟨h1, h2⟩ := hq x hx
    have hne : x.1 ≠ d := by rintro rfl; rw [hd] at h1; cases h1
    exact ⟨h1, by rw [GE.upd_ne _ _ hne]; exact h2⟩
  refine ⟨fun t => ?_, fun t => ?_, fun t cs h => ?_, fun t h => ?_⟩
  · by_cases ht : t = d
    · subst ht; simp [GE.upd_eq, Env.upd]
    · rw [GE.upd_ne _ _ ht]; simp only [Env.upd, if_neg ht]; exact I.env t
  · by_cases ht : t = d
    · subst ht; rw [GE.upd_eq]; exact hpath _ hp
    · rw [GE.upd_ne _ _ ht]; exact hpath _ (I.path t)
  · by_cases ht : t = d
    · subst ht; rw [GE.upd_eq] at h ⊢; exact hb cs h
    · rw [GE.upd_ne _ _ ht] at h ⊢; exact I.box t cs h
  · have hne : t ≠ d := by rintro rfl; rw [hd] at h; cases h
    rw [GE.upd_ne _ _ hne]; exact I.keys t h

theorem GInv.put {g : GE} {keys : List Nat} {e : Env} (I : GInv g keys e) {o : Oper} (hd : dstOk keys o = true) {p : Path} (hp : PathOk g keys p) {v : AV} (hb : ∀ cs, v = .box cs → p = []) : GInv (g.put o.dst ⟨p, v⟩) keys (e.put o.dst (if pathB p then v else .skip)) := by
  unfold dstOk at hd
  cases ho : o.dst with
  | none => exact I
  | some d =>
    rw [ho] at hd
    exact I.upd (by simpa using hd) hp hb

theorem nobox_box {v : AV} (h : nobox v = true) : ∀ cs, v ≠ .box cs := by
  rintro cs rfl
  simp [nobox] at h

section
variable {P : Program} {G : Cfg}

theorem opd_eq {g : GE} {keys : List Nat} {e : Env} (I : GInv g keys e) {p : Path} (hp : PathOk g keys p) (hb : pathB p = true) {x : Operand} (hx : opdOk g p x = true) : evalO G e x = evalO G g.env x := by
  refine evalO_eq ?_
  cases x with
  | tmp t =>
    have : pathB (g t).p = true := sufOk_true (I.path t) hx hp hb
    show e t = (g t).v
    rw [I.env t, this]
    rfl
  | _ => trivial

theorem GInv.boxes {g : GE} {keys : List Nat} {e : Env} (I : GInv g keys e) : Boxes e g.env := by
  intro b cs
  show e b = .box cs ↔ (g b).v = .box cs
  rw [I.env b]
  constructor
  · intro h
    split at h
    · exact h
    · cases h
  · intro h
    rw [I.box b cs h]
    simpa [pathB] using h

theorem effU_congr {K : Caller} {f : FuncId} {e e' : Env} {h : Heap} {o : Oper} (ho : ∀ x ∈ o.op.operands.toList, evalO G e x = evalO G e' x) (hb : Boxes e e') (hv : isVar o = true → ∀ d, o.dst = some d → e d = e' d) : effU P G K f e h o = effU P G K f e' h o := by
  unfold effU
  rw [callOf_congr ho, aop_congr ho hb hv]

/-- What is shown of a step. -/
def Stepped (P : Program) (G : Cfg) (f : FuncId) (ops : Array Oper) (o : Oper) (e : Env) (h : Heap) (k : GE → List Nat → Heap → Prop) : Prop :=
  ∃ g' keys' e' h', k g' keys' h' ∧ GInv g' keys' e' ∧ Evt (fun m => stepO P G (callerOf P G (exec P G m)) f ops o ⟨e, h⟩ = some ⟨e', h'⟩)

section
variable {f : FuncId} {ops : Array Oper} {o : Oper} {g : GE} {keys : List Nat} {e : Env} {h : Heap} {k : GE → List Nat → Heap → Prop} {p : Path}

theorem step_skip (hg : guardOf ops e o = some false) (hv : isVar o = false) (m : Nat) : stepO P G (callerOf P G (exec P G m)) f ops o ⟨e, h⟩ = some ⟨e.put o.dst .skip, h⟩ := by
  simp only [stepO, effO, hg, hv, Bool.false_eq_true, if_false]
  simp [effPlain, nobox, Eff.apply]

theorem step_exec {x : Eff} (hg : guardOf ops e o = some true) (hp : effPlain o x = true) {m : Nat} (hx : effU P G (callerOf P G (exec P G m)) f e h o = some x) : stepO P G (callerOf P G (exec P G m)) f ops o ⟨e, h⟩ = some (x.apply o ⟨e, h⟩) := by
  have : effO P G (callerOf P G (exec P G m)) f ops o ⟨e, h⟩ = effU P G (callerOf P G (exec P G m)) f e h o := by
    simp only [effO, hg]
    rfl
  simp only [stepO, this, hx, hp, if_true]

theorem wbox_put (I : GInv g keys e) {t : Nat} {cs0 cs : List AV} (ht : (g t).v = .box cs0) (hd : dstOk keys o = true) (hp : PathOk g keys p) (hb : pathB p = true) : GInv ((g.upd t ⟨[], .box cs⟩).put o.dst ⟨p, .undef⟩) keys ((e.upd t (.box cs)).put o.dst .undef) := by
  have hk : inL t keys = false := by
    cases hh : inL t keys with
    | false => rfl
    | true =>
      obtain ⟨b, hb⟩ := I.keys t hh
      rw [ht] at hb
      cases hb
  have I1 : GInv (g.upd t ⟨[], .box cs⟩) keys (e.upd t (.box cs)) := by
    have := I.upd hk (p := []) (fun x hx => by cases hx) (v := .box cs) (fun _ _ => rfl)
    simpa [pathB] using this
  have hp1 : PathOk (g.upd t ⟨[], .box cs⟩) keys p := fun x hx => by
    obtain ⟨h1, h2⟩ := hp x hx
    have hne : x.1 ≠ t := by rintro rfl; rw [hk] at h1; cases h1
    exact ⟨h1, by rw [GE.upd_ne _ _ hne]; exact h2⟩
  have := I1.put hd hp1 (v := .undef) (fun cs h => by cases h)
  rwa [hb, if_pos rfl] at this

theorem stepK_ok {M : Mode} (I : GInv g keys e) (hk : stepK P G M f ops o g keys h k) : Stepped P G f ops o e h k := by
  unfold stepK at hk
  split at hk
  · exact hk.elim
  · rename_i p keys' hpo
    obtain ⟨hg, hpk, I'⟩ := path_of hpo I
    obtain ⟨hc, hk⟩ := cond_elim hk
    simp only [Bool.and_eq_true] at hc
    obtain ⟨hd, hvar⟩ := hc
    have hvarp : isVar o = true → p = [] ∧ ∀ d, o.dst = some d → (g d).p = [] := by
      intro hv
      unfold varOk at hvar
      rw [hv] at hvar
      simp only [cond_true, Bool.and_eq_true] at hvar
      refine ⟨?_, fun d hdd => ?_⟩
      · cases p with
        | nil => rfl
        | cons x r => simp at hvar
      · have := hvar.2
        rw [hdd] at this
        simp only at this
        split at this
        · assumption
        · cases this
    have hskip : pathB p = false → isVar o = false := by
      intro hp
      cases hv : isVar o with
      | false => rfl
      | true =>
        rw [(hvarp hv).1] at hp
        simp [pathB] at hp
    have hvenv : isVar o = true → ∀ d, o.dst = some d → e d = g.env d := by
      intro hv d hdd
      show e d = (g d).v
      rw [I.env d, (hvarp hv).2 d hdd]
      simp [pathB]
    have done_skip : ∀ {v : AV}, pathB p = false → (∀ cs, v ≠ .box cs) → k (g.put o.dst ⟨p, v⟩) keys' h → Stepped P G f ops o e h k := by
      intro v hp hv hk
      refine ⟨_, _, _, _, hk, ?_, Evt.of fun m => step_skip (by rw [hg, hp]) (hskip hp) m⟩
      have := I'.put hd hpk (v := v) (fun cs h => absurd h (hv cs))
      simpa [hp] using this
    have done_val : ∀ {v : AV}, pathB p = true → (∀ cs, v = .box cs → p = []) → effPlain o (.val v) = true → Evt (fun m => effU P G (callerOf P G (exec P G m)) f e h o = some (.val v)) → k (g.put o.dst ⟨p, v⟩) keys' h → Stepped P G f ops o e h k := by
      intro v hp hv hpl hE hk
      refine ⟨_, _, e.put o.dst v, h, hk, ?_, hE.mono fun m hm => step_exec (by rw [hg, hp]) hpl hm⟩
      have := I'.put hd hpk hv
      rwa [hp, if_pos rfl] at this
    have done_heap : ∀ {v : AV} {h' : Heap}, pathB p = true → (∀ cs, v = .box cs → p = []) → effPlain o (.heap h' v) = true → Evt (fun m => effU P G (callerOf P G (exec P G m)) f e h o = some (.heap h' v)) → k (g.put o.dst ⟨p, v⟩) keys' h' → Stepped P G f ops o e h k := by
      intro v h' hp hv hpl hE hk
      refine ⟨_, _, e.put o.dst v, h', hk, ?_, hE.mono fun m hm => step_exec (by rw [hg, hp]) hpl hm⟩
      have := I'.put hd hpk hv
      rwa [hp, if_pos rfl] at this
    have done_box : ∀ {t : Nat} {cs0 cs : List AV}, pathB p = true → (g t).v = .box cs0 → Evt (fun m => effU P G (callerOf P G (exec P G m)) f e h o = some (.wbox t cs)) → k ((g.upd t ⟨[], .box cs⟩).put o.dst ⟨p, .undef⟩) keys' h → Stepped P G f ops o e h k := by
      intro t cs0 cs hp ht hE hk
      exact ⟨_, _, _, h, hk, wbox_put I' ht hd hpk hp, hE.mono fun m hm => step_exec (by rw [hg, hp]) rfl hm⟩
    split at hk
    · -- pick
      rename_i tc a b hop
      have hvf : isVar o = false := by simp [isVar, hop]
      obtain ⟨hc, hk⟩ := cond_elim hk
      simp only [Bool.and_eq_true] at hc
      obtain ⟨hc1, ha, hb⟩ := hc
      split at hk
      · rename_i c hcv
        obtain ⟨hnb, hk⟩ := cond_elim hk
        by_cases hp : pathB p = true
        · refine done_val hp (fun cs h => absurd h (nobox_box hnb cs)) (by simp [effPlain, hnb]) (Evt.of fun m => ?_) hk
          have hec : e tc = .bool c := by
            rw [I'.env tc, sufOk_true (I'.path tc) hc1 hpk hp, hcv]
            rfl
          have harm : ∀ {w : Bool} {x : Operand}, armOk g p tc w x = true → c = w → evalO G e x = evalO G g.env x := by
            intro w x hx hcw
            refine evalO_eq ?_
            cases x with
            | tmp t =>
              show e t = (g t).v
              have hpt : pathB (g t).p = true := by
                simp only [armOk, Bool.or_eq_true] at hx
                rcases hx with hx | hx
                · exact sufOk_true (I'.path t) hx hpk hp
                · split at hx
                  · rename_i u w' bb r hr
                    simp only [Bool.and_eq_true] at hx
                    obtain ⟨h1, h2, h3⟩ := hx
                    have hu : u = tc := Nat.eq_of_beq_eq_true h1
                    have hw : w' = w := by cases w <;> cases w' <;> simp_all [sameB]
                    have hpt := I'.path t
                    rw [hr] at hpt
                    have e1 := (hpt (u, w', bb) (by simp)).2
                    simp only [hu, hcv] at e1
                    cases e1
                    have hrr : r = p := samePath_eq h3 (fun x hx => hpt x (by simp [hx])) hpk
                    rw [hr, pathB, hrr, hp, hw, ← hcw]
                    cases c <;> rfl
                  · cases hx
              rw [I'.env t, hpt]
              rfl
            | _ => trivial
          have hskipv : ∀ {w : Bool} {x : Operand}, armOk g p tc w x = true → evalO G e x = evalO G g.env x ∨ evalO G e x = .skip := by
            intro w x hx
            cases x with
            | tmp t =>
              by_cases hpt : pathB (g t).p = true
              · left
                refine evalO_eq ?_
                show e t = (g t).v
                rw [I'.env t, hpt]
                rfl
              · right
                have : e t = .skip := by rw [I'.env t]; simp [hpt]
                simp [evalO, this]
            | _ => exact .inl rfl
          have hpick : pickV c (evalO G e a) (evalO G e b) = pickV c (evalO G g.env a) (evalO G g.env b) := by
            cases c with
            | true =>
              rw [harm ha rfl]
              rcases hskipv hb with h1 | h1
              · rw [h1]
              · rw [h1]
                unfold pickV
                cases evalO G g.env a <;> cases evalO G g.env b <;> simp
            | false =>
              rw [harm hb rfl]
              rcases hskipv ha with h1 | h1
              · rw [h1]
              · rw [h1]
                unfold pickV
                cases evalO G g.env a <;> cases evalO G g.env b <;> simp
          have hcall : isCall o = false := by simp [isCall, hop]
          have htc : evalO G e (.tmp tc) = .bool c := by simp [evalO, hec]
          simp only [effU, hcall, Bool.false_eq_true, if_false]
          rw [← hpick]
          unfold aop
          simp only [hop, htc]
        · exact done_skip (eq_false_of_ne_true hp) (nobox_box hnb) hk
      · exact hk.elim
    · rename_i hnp
      obtain ⟨hall, hk⟩ := cond_elim hk
      have hopd : pathB p = true → ∀ x ∈ o.op.operands.toList, evalO G e x = evalO G g.env x := fun hp x hx => opd_eq I' hpk hp (List.all_eq_true.1 hall x hx)
      have heff : pathB p = true → ∀ m, effU P G (callerOf P G (exec P G m)) f e h o = effU P G (callerOf P G (exec P G m)) f g.env h o := fun hp m => effU_congr (hopd hp) I'.boxes hvenv
      cases p with
      | nil =>
        have hp : pathB ([] : Path) = true := rfl
        obtain ⟨x, h1, h2, h3⟩ := opK_ok (P := P) (G := G) (M := M) (f := f) (o := o) (q := []) (e := g.env) (h := h) (k := fun v => k (g.put o.dst ⟨[], v⟩) keys' h)
          (kb := fun t cs => match (g t).v with | .box _ => k ((g.upd t ⟨[], .box cs⟩).put o.dst ⟨[], .undef⟩) keys' h | _ => False) (kh := fun h' v => k (g.put o.dst ⟨[], v⟩) keys' h') (fun v hv => hv) rfl hk
        replace h2 := h2.mono fun m hm => (heff hp m).trans hm
        cases x with
        | val v => exact done_val hp (fun _ _ => rfl) h1 h2 h3
        | wbox t cs =>
          simp only [AI.Post] at h3
          split at h3
          · rename_i cs0 ht
            exact done_box hp ht h2 h3
          · exact h3.elim
        | heap h' v => exact done_heap hp (fun _ _ => rfl) h1 h2 h3
      | cons y r =>
        simp only at hk
        cases hh : heapish G g.env o with
        | true =>
          simp only [hh, cond_true] at hk
          cases hp : pathB (y :: r) with
          | true =>
            simp only [hp, cond_true] at hk
            obtain ⟨x, h1, h2, h3⟩ := opK_ok (P := P) (G := G) (M := M) (f := f) (o := o) (q := []) (e := g.env) (h := h) (k := fun v => bif nobox v then k (g.put o.dst ⟨y :: r, v⟩) keys' h else False)
              (kb := fun t cs => match (g t).v with | .box _ => k ((g.upd t ⟨[], .box cs⟩).put o.dst ⟨y :: r, .undef⟩) keys' h | _ => False) (kh := fun h' v => bif nobox v then k (g.put o.dst ⟨y :: r, v⟩) keys' h' else False) (fun v hv => hv) rfl hk
            replace h2 := h2.mono fun m hm => (heff hp m).trans hm
            cases x with
            | val v =>
              obtain ⟨h4, h5⟩ := cond_elim h3
              exact done_val hp (fun cs h => absurd h (nobox_box h4 cs)) h1 h2 h5
            | wbox t cs =>
              simp only [AI.Post] at h3
              split at h3
              · rename_i cs0 ht
                exact done_box hp ht h2 h3
              · exact h3.elim
            | heap h' v =>
              obtain ⟨h4, h5⟩ := cond_elim h3
              exact done_heap hp (fun cs h => absurd h (nobox_box h4 cs)) h1 h2 h5
          | false =>
            simp only [hp, cond_false] at hk
            exact done_skip hp (fun cs h => by cases h) hk
        | false =>
          simp only [hh, cond_false] at hk
          by_cases hp : pathB (y :: r) = true
          · obtain ⟨x, h1, h2, h3⟩ := opK_ok (fun v (hv : False) => hv.elim) hp hk
            replace h2 := h2.mono fun m hm => (heff hp m).trans hm
            cases x with
            | val v =>
              obtain ⟨h4, h5⟩ := cond_elim h3
              exact done_val hp (fun cs h => absurd h (nobox_box h4 cs)) h1 h2 h5
            | wbox t cs => exact h3.elim
            | heap h' v => exact h3.elim
          · obtain ⟨x, h3⟩ := opK_any hk
            cases x with
            | val v =>
              obtain ⟨h4, h5⟩ := cond_elim h3
              exact done_skip (eq_false_of_ne_true hp) (nobox_box h4) h5
            | wbox t cs => exact h3.elim
            | heap h' v => exact h3.elim

end
end
end Go.Proofs.YtdnhhdplcminlaaGreatDoor.AI
