/- Whole functions. -/
import Derived.Test.YtdnhhdplcminlaaGreatDoorAiAny
import Derived.LoopN
set_option maxHeartbeats 400000
set_option linter.unusedVariables false
set_option linter.unusedSimpArgs false
set_option linter.unusedSectionVars false
namespace Go.Proofs.YtdnhhdplcminlaaGreatDoor.AI
variable [Nu]

/-- What is looked at in a function's text. -/
def codeOk (G : Cfg) (f : FuncId) (n : Nat) : Code → Bool
  | .region _ ops draws => ops.all (opOk G f n) && (!draws || drawOk G f ops)
  | .seq a b => codeOk G f n a && codeOk G f n b
  | .cond _ a b => codeOk G f n a && codeOk G f n b
  | .block _ b => codeOk G f n b
  | .loop b => codeOk G f n b
  | .skip => true
  | .exit _ => true
  | .ret => true
  | _ => false

def fnOk (P : Program) (G : Cfg) (f : FuncId) : Bool :=
  match P.funcs[f]? with
  | some fn => match fn.body with
    | some c => codeOk G f fn.ntmps c && decide (fn.params.size + fn.nfree ≤ fn.ntmps) && !(fn.name == "runtime.NumGoroutine")
    | none => false
  | none => false

structure CfgOk (P : Program) (G : Cfg) : Prop where
  good : ∀ f, G.good f = true → fnOk P G f = true
  glob : GlobOk G
  mixed : P.follows .mixedOrders = true
  ora : OraOk G
  prim : ∀ g p args v, G.prim g = some p → p args = some v → PlainCall P G g args v
  hprim : ∀ g p args h v h', G.hprim g = some p → p args h = some (v, h') → HeapCall P G g args h v h'

def AExit.to : AExit → Exit
  | .normal => .normal
  | .exit id => .exit id
  | .ret => .ret

section
variable {P : Program} {G : Cfg} {E : Nat → Nat → Prop} {f : FuncId} {L : Lay} {s : St} {a : Act} {w : World}

theorem keep_spec {e : Env} : ∀ (ts : List Nat) (e0 e' : Env), keepOnly e0 e ts = some e' → ∀ t, e' t = e0 t ∨ (e' t = e t ∧ ∀ b off, e t ≠ .bp b off)
  | [], e0, e', h => by
    simp only [keepOnly, Option.some.injEq] at h
    subst h
    exact fun t => .inl rfl
  | u :: ts, e0, e', h => by
    unfold keepOnly at h
    split at h
    · cases h
    · rename_i hne
      intro t
      rcases keep_spec ts _ e' h t with h1 | h1
      · rw [h1]
        by_cases htu : t = u
        · subst htu
          have : e0.upd t (e t) t = e t := by simp [Env.upd]
          rw [this]
          exact .inr ⟨rfl, fun b off he => hne b off he⟩
        · have : e0.upd u (e u) t = e0 t := by simp [Env.upd, htu]
          rw [this]
          exact .inl rfl
      · exact .inr h1

theorem fm_range : ∀ l : List Oper, (List.range l.length).filterMap (l[·]?) = l
  | [] => rfl
  | x :: l => by
    rw [List.length_cons, List.range_succ_eq_map, List.filterMap_cons]
    simp only [List.getElem?_cons_zero, List.filterMap_map]
    congr 1
    have : ((fun i => (x :: l)[i]?) ∘ Nat.succ : Nat → Option Oper) = fun i => l[i]? := by funext i; simp
    rw [this]
    exact fm_range l

/-- Some variables of the frame are forgotten. -/
theorem HS.drop {e e' : Env} {h : Heap} {len : Nat} (H : HS P G E L (obOf e h) len w) (hb : ∀ b cs, e' b = .box cs → e b = .box cs) :
    HS P G E L (obOf e' h) len w ∧ Pg E L (obOf e h) len w L (obOf e' h) len w := by
  have sub : ∀ k o, obOf e' h k = some o → obOf e h k = some o := by
    intro k o hk
    cases k with
    | box b =>
      obtain ⟨cs, hc, rfl⟩ := ob_box hk
      simp [obOf, boxO, hb b cs hc]
    | obj id => exact hk
  have le : (rc E L (obOf e h) len w).Le (rc E L (obOf e' h) len w) :=
    le_of_same (fun a v ⟨h1, h2, h3⟩ => ⟨h1, fun hu => h2 (by
      rcases hu with hu | ⟨k, o, hk, hl, hc⟩
      · exact .inl hu
      · exact .inr ⟨k, o, sub k o hk, hl, hc⟩), h3⟩) rfl rfl (fun _ => rfl) rfl (fun _ => rfl)
  exact ⟨⟨fun k o hk => (H.objs k o (sub k o hk)).keep le rfl (fun _ _ => ⟨rfl, rfl⟩) rfl, fun k o hk => H.lt k o (sub k o hk), fun k k' o o' hk hk' => H.inj k k' o o' (sub k o hk) (sub k' o' hk'),
    fun k o j hk => H.ne k o j (sub k o hk), H.eold, fun g cs hg => (H.glob g cs hg).mono le, fun id o hk => H.idlt id o hk, fun g hg => (H.ints g hg).imp fun m h => le.S _ _ h⟩, le, Fr.refl _ _, fun k o hk => .inl ⟨k, o, sub k o hk, rfl⟩⟩

theorem FS.keep (F : FS P G E f L s a w) {ts : List Nat} {e : Env} (h : keepOnly Env.empty s.env ts = some e) : FS P G E f L ⟨e, s.heap⟩ a w ∧ PgS E L s w L ⟨e, s.heap⟩ w := by
  have hk := keep_spec ts _ _ h
  have hb : ∀ b cs, e b = .box cs → s.env b = .box cs := by
    intro b cs hc
    rcases hk b with h1 | ⟨h1, _⟩
    · rw [h1] at hc; cases hc
    · rw [← h1]; exact hc
  obtain ⟨H, hp⟩ := F.hs.drop hb
  refine ⟨⟨H, fun t ht => ?_, fun t ht => ?_, F.dfr, fun t cs he => F.bx t cs (hb t cs he)⟩, hp⟩
  · show TRep _ t (e t) _
    rcases hk t with h1 | ⟨h1, h2⟩
    · rw [h1]; exact .inl (.inl (.undef _))
    · have hc := F.env t ht
      rw [h1]
      rcases hc with hc | ⟨cs, he, ho, hc⟩
      · exact .inl (.inl ((hc.rep h2).mono hp.le))
      · exact .inr ⟨cs, he, by show obOf e s.heap (.box t) = _; simp [obOf, boxO, h1, he], hc⟩
  · show e t = .undef
    rcases hk t with h1 | ⟨h1, _⟩
    · exact h1
    · rw [h1]; exact F.ein t ht

/-- What a piece of a function comes to. -/
def Goes (P : Program) (G : Cfg) (f : FuncId) (c : Code) (s : St) (ex : AExit) (s' : St) : Prop :=
  ∀ (E : Nat → Nat → Prop) (L : Lay) (a : Act) (w : World), codeOk G f a.tmps.size c = true → FS P G E f L s a w → ∀ Q : Exit → Act → World → Prop,
    (∀ L' a' w', FS P G E f L' s' a' w' → PgS E L s w L' s' w' → a'.tmps.size = a.tmps.size → Q ex.to a' w') → c.wp P Q a w
def Rounds (P : Program) (G : Cfg) (f : FuncId) (n : Nat) (c : Code) (s : St) (ex : AExit) (s' : St) : Prop :=
  ∀ (E : Nat → Nat → Prop) (L : Lay) (a : Act) (w : World), codeOk G f a.tmps.size c = true → FS P G E f L s a w → ∀ Q : Exit → Act → World → Prop,
    (∀ L' a' w', FS P G E f L' s' a' w' → PgS E L s w L' s' w' → a'.tmps.size = a.tmps.size → Q ex.to a' w') → Code.rounds P c Q n a w

def ExecOk (P : Program) (G : Cfg) (n : Nat) (X : FuncId → Code → St → Option (AExit × St)) : Prop :=
  (∀ f c s ex s', X f c s = some (ex, s') → Goes P G f c s ex s') ∧ ∀ f b s ex s', X f (.loop b) s = some (ex, s') → Rounds P G f n b s ex s' ∧ ex ≠ .normal

theorem loop_level {K : Caller} {X : FuncId → Code → St → Option (AExit × St)} {n : Nat} (HX : ExecOk P G n X) {b : Code} {s s' : St} {ex : AExit} (h : level P G K X f (.loop b) s = some (ex, s')) : Rounds P G f (n + 1) b s ex s' ∧ ex ≠ .normal := by
  simp only [level] at h
  split at h <;> try cases h
  rename_i e he
  split at h
  · rename_i s1 h1
    obtain ⟨hr, hne⟩ := HX.2 f b s1 ex s' h
    refine ⟨fun E L a w hc F Q hQ => ?_, hne⟩
    rw [rounds_succ]
    obtain ⟨F1, p1⟩ := F.keep he
    exact HX.1 f b _ _ _ h1 E L a w hc F1 _ fun L' a' w' F' hp hsz => hr E L' a' w' (by rw [hsz]; exact hc) F' Q fun L2 a2 w2 F2 hp2 hsz2 => hQ L2 a2 w2 F2 ((p1.trans hp).trans hp2) (hsz2.trans hsz)
  · rename_i r hne
    obtain ⟨ex', s1⟩ : AExit × St := ⟨ex, s'⟩
    have hx : ex ≠ .normal := by
      rintro rfl
      exact hne s' h
    refine ⟨fun E L a w hc F Q hQ => ?_, hx⟩
    rw [rounds_succ]
    obtain ⟨F1, p1⟩ := F.keep he
    refine HX.1 f b _ _ _ h E L a w hc F1 _ fun L' a' w' F' hp hsz => ?_
    have := hQ L' a' w' F' (p1.trans hp) hsz
    cases ex with
    | normal => exact absurd rfl hx
    | exit id => exact this
    | ret => exact this

theorem level_sound (C : CfgOk P G) {K : Caller} (HK : KOk P G K) {X : FuncId → Code → St → Option (AExit × St)} {n : Nat} (HX : ExecOk P G n X) : ExecOk P G (n + 1) (level P G K X) := by
  refine ⟨fun f c s ex s' h => ?_, fun f b s ex s' h => loop_level HX h⟩
  intro E L a w hc F Q hQ
  cases c with
  | skip =>
    simp only [level, Option.some.injEq, Prod.mk.injEq] at h
    obtain ⟨rfl, rfl⟩ := h
    exact wp_skip (hQ L a w F (Pg.refl _ _ _ _ _) rfl)
  | exit id =>
    simp only [level, Option.some.injEq, Prod.mk.injEq] at h
    obtain ⟨rfl, rfl⟩ := h
    exact wp_exit (hQ L a w F (Pg.refl _ _ _ _ _) rfl)
  | ret =>
    simp only [level, Option.some.injEq, Prod.mk.injEq] at h
    obtain ⟨rfl, rfl⟩ := h
    exact wp_ret (hQ L a w F (Pg.refl _ _ _ _ _) rfl)
  | region id ops draws =>
    simp only [level] at h
    split at h <;> try cases h
    rename_i s1 h1
    obtain ⟨e, he, h2⟩ := Option.map_eq_some_iff.1 h
    simp only [Prod.mk.injEq] at h2
    obtain ⟨rfl, rfl⟩ := h2
    simp only [codeOk, Bool.and_eq_true, Array.all_eq_true_iff_forall_mem, Bool.or_eq_true, Bool.not_eq_true'] at hc
    have fin : ∀ L' a' w', FS P G E f L' s1 a' w' → PgS E L s w L' s1 w' → a'.tmps.size = a.tmps.size → Q .normal a' w' := by
      intro L' a' w' F' hp hsz
      obtain ⟨F2, p2⟩ := F'.keep he
      exact hQ L' a' w' F2 (hp.trans p2) hsz
    cases draws with
    | false => exact wp_region_list (list_sound C.ora HK ops.toList L s s1 a w F (fun o ho => hc.1 o (by simpa using ho)) h1 fin)
    | true =>
      have hd : drawOk G f ops = true := hc.2.resolve_left (by simp)
      obtain ⟨H0, hp0⟩ := Pg.world F.hs (Fr.drew (fun _ => False) w)
      have F0 := F.move H0 hp0.le (fun _ _ _ => rfl)
      refine wp_region_any C.mixed (any_sound C.ora HK hd ops.size _ L s s1 a _ F0 hc.1 (by simp) ?_ ?_ ?_ fun L' a' w' F' hp hsz => fin L' a' w' F' (Pg.trans hp0 hp) hsz)
      · simp only [un]
        exact Nat.le_trans (List.length_filter_le _ _) (by simp)
      · intro j o hj hl
        have hlt := (Array.getElem?_eq_some_iff.1 hj).1
        simp [hlt] at hl
      · have : (un ops (Array.replicate ops.size false)).filterMap (ops[·]?) = ops.toList := by
          have hu : un ops (Array.replicate ops.size false) = List.range ops.size := by
            refine List.filter_eq_self.2 fun i hi => ?_
            simp only [List.mem_range] at hi
            simp [hi]
          rw [hu]
          have := fm_range ops.toList
          simpa using this
        rw [this]
        exact h1
  | seq x y =>
    simp only [level] at h
    simp only [codeOk, Bool.and_eq_true] at hc
    refine wp_seq ?_
    split at h
    · rename_i s1 h1
      exact HX.1 f x _ _ _ h1 E L a w hc.1 F _ fun L' a' w' F' hp hsz => HX.1 f y _ _ _ h E L' a' w' (by rw [hsz]; exact hc.2) F' Q fun L2 a2 w2 F2 hp2 hsz2 => hQ L2 a2 w2 F2 (hp.trans hp2) (hsz2.trans hsz)
    · rename_i r hne
      have hx : ex ≠ .normal := by rintro rfl; exact hne s' h
      refine HX.1 f x _ _ _ h E L a w hc.1 F _ fun L' a' w' F' hp hsz => ?_
      have := hQ L' a' w' F' hp hsz
      cases ex with
      | normal => exact absurd rfl hx
      | exit id => exact this
      | ret => exact this
  | cond x y z =>
    simp only [level] at h
    simp only [codeOk, Bool.and_eq_true] at hc
    split at h <;> try cases h
    rename_i t ht
    have hx := F.eval x
    rw [ht] at hx
    have hx := hx.rep (by simp)
    generalize hxc : a.eval x = xc at hx
    cases hx
    refine wp_cond hxc ?_
    cases t with
    | true => exact HX.1 f y _ _ _ h E L a w hc.1 F Q hQ
    | false => exact HX.1 f z _ _ _ h E L a w hc.2 F Q hQ
  | block id b =>
    simp only [level] at h
    simp only [codeOk] at hc
    refine wp_block ?_
    split at h
    · rename_i id' s1 h1
      refine HX.1 f b _ _ _ h1 E L a w hc F _ fun L' a' w' F' hp hsz => ?_
      show Exit.inBlock id Q (.exit id') a' w'
      simp only [Exit.inBlock]
      split at h
      · rename_i hid
        rw [if_pos hid]
        cases h
        exact hQ L' a' w' F' hp hsz
      · rename_i hid
        rw [if_neg hid]
        cases h
        exact hQ L' a' w' F' hp hsz
    · rename_i r hne
      refine HX.1 f b _ _ _ h E L a w hc F _ fun L' a' w' F' hp hsz => ?_
      have := hQ L' a' w' F' hp hsz
      cases ex with
      | normal => exact this
      | exit id' => exact absurd h (hne id' s')
      | ret => exact this
  | loop b =>
    simp only [codeOk] at hc
    exact wp_loop_rounds (n + 1) ((loop_level HX h).1 E L a w hc F Q hQ)
  | _ => simp [level] at h
end
end Go.Proofs.YtdnhhdplcminlaaGreatDoor.AI
