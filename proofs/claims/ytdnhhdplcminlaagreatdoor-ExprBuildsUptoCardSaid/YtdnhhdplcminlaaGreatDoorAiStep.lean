/- One operation, a call too. -/
import Derived.Test.YtdnhhdplcminlaaGreatDoorAiCall
set_option maxHeartbeats 400000
set_option linter.unusedVariables false
set_option linter.unusedSimpArgs false
set_option linter.unusedSectionVars false
namespace Go.Proofs.YtdnhhdplcminlaaGreatDoor.AI
variable [Nu]

/-- A function that is entered by a call. -/
def Enters (P : Program) (g : FuncId) : Prop := ∀ (args : Array Value) (w : World), (callFunc g args).run P w = .ok (.enter g args) w

/-- A call over a heap. -/
def HeapCall (P : Program) (G : Cfg) (g : FuncId) (args : List AV) (h : Heap) (v : AV) (h' : Heap) : Prop :=
  Enters P g ∧ ∀ (E : Nat → Nat → Prop) (L : Lay) (w : World) (vs : List Value), HS P G E L (obOf Env.empty h) h.length w → RepL (rc E L (obOf Env.empty h) h.length w) args vs →
    Calls P g vs.toArray w fun e w' => ∃ c L', e = .returned c ∧ HS P G E L' (obOf Env.empty h') h'.length w' ∧ Pg E L (obOf Env.empty h) h.length w L' (obOf Env.empty h') h'.length w' ∧ Rep (rc E L' (obOf Env.empty h') h'.length w') v c

/-- A call with plain data. -/
def PlainCall (P : Program) (G : Cfg) (g : FuncId) (args : List AV) (v : AV) : Prop :=
  Enters P g ∧ ∀ (E : Nat → Nat → Prop) (L : Lay) (ob : Key → Option AObj) (len : Nat) (w : World) (vs : List Value), HS P G E L ob len w → RepL (rc E L ob len w) args vs →
    Calls P g vs.toArray w fun e w' => ∃ c, e = .returned c ∧ Fr (fun _ => False) w w' ∧ Rep (rc E L ob len w') v c

def KOk (P : Program) (G : Cfg) (K : Caller) : Prop :=
  (∀ g args h v h', apartF G g = false → K g args h = some (v, h') → HeapCall P G g args h v h') ∧ ∀ g args v h', apartF G g = true → K g args [] = some (v, h') → PlainCall P G g args v

section
variable {P : Program} {G : Cfg} {K : Caller} {E : Nat → Nat → Prop} {f : FuncId} {ops : Array Oper} {L : Lay} {s : St} {a : Act} {w : World}

theorem guard_ok (F : FS P G E f L s a w) {o : Oper} {b : Bool} (h : guardOf ops s.env o = some b) : Region.wanted o (yielded ops a.tmps) = b := by
  unfold guardOf at h
  unfold Region.wanted
  split at h
  · rename_i hg
    cases h
    rw [hg]
  · rename_i j want hg
    rw [hg]
    simp only
    split at h <;> try cases h
    rename_i t ht
    have hy : yielded ops a.tmps j = match a.tmps[t]? with | some (.bool b) => some b | _ => none := by
      unfold yielded
      rw [ht]
      rfl
    rw [hy]
    by_cases hlt : t < a.tmps.size
    · have hr := F.env t hlt
      rw [Array.getElem?_eq_getElem hlt]
      have hgd : a.tmps.getD t undef = a.tmps[t] := by simp [hlt]
      rw [hgd] at hr
      split at h <;> try cases h
      · rename_i c hc
        rw [hc] at hr
        rcases hr with hr | ⟨cs, he, _⟩
        · have hr := hr.rep (by simp)
          generalize a.tmps[t] = x at hr
          cases hr
          cases c <;> cases want <;> rfl
        · cases he
      · rename_i hc
        rw [hc] at hr
        rcases hr with hr | ⟨cs, he, _⟩
        · have hr := hr.rep (by simp)
          generalize a.tmps[t] = x at hr
          cases hr
          rfl
        · cases he
    · have := F.ein t (Nat.not_lt.1 hlt)
      rw [this] at h
      cases h

theorem call_reps (F : FS P G E f L s a w) {o : Oper} {g : FuncId} {args : List AV} (hi : isCall o = true) (h : callOf G s.env o = some (g, args)) :
    ∃ vs : List Value, RepL (rc E L (obOf s.env s.heap) s.heap.length w) args vs ∧ (Enters P g → (execOp a.eval o).run P w = .ok (.enter g vs.toArray) w) := by
  unfold isCall at hi
  split at hi <;> try cases hi
  rename_i y xs ats hop
  simp only [callOf, hop] at h
  split at h <;> try cases h
  rename_i g' caps he
  split at h <;> try cases h
  rename_i hp
  have hr := reps F xs.toList hp
  have hy := F.eval y
  rw [he] at hy
  have hy := hy.rep (by simp)
  generalize hyc : a.eval y = yc at hy
  cases hy
  rename_i vs hl hR
  refine ⟨xs.toList.map a.eval ++ vs, hr.app ⟨hl, hR⟩, fun hen => ?_⟩
  have : (xs.toList.map a.eval ++ vs).toArray = (#[] ++ xs.map a.eval) ++ vs.toArray := by
    apply Array.toList_inj.1
    simp
  rw [this]
  simp only [execOp, hop, resolve, Deferred.ofValue, hyc, pure_bind, invoke]
  exact hen _ _

theorem step_sound (O : OraOk G) (HK : KOk P G K) (F : FS P G E f L s a w) {o : Oper} (ko : opOk G f a.tmps.size o = true) {s' : St} (h : stepO P G K f ops o s = some s') {N : Act → World → Prop} {Q : Exit → Act → World → Prop}
    (hN : ∀ L' a' w', FS P G E f L' s' a' w' → PgS E L s w L' s' w' → a'.tmps.size = a.tmps.size → N a' w') :
    if Region.wanted o (yielded ops a.tmps) then o.wp P a w N Q else N (a.put o.dst undef) w := by
  obtain ⟨x, hx, hpl, rfl⟩ := step_some h
  have hx0 := hx
  unfold effO at hx
  split at hx
  · cases hx
  · rename_i hg
    rw [guard_ok F hg]
    simp only [Bool.false_eq_true, if_false]
    split at hx <;> cases hx
    rename_i hv
    have hd := opOk_dst ko (by simpa using hv)
    obtain ⟨h1, h2⟩ := F.put o.dst hd (v := .skip) (c := undef) (.inl .skip)
    refine hN L _ _ h1 ?_ (put_size _ _ _)
    show Pg E L _ _ w L (obOf (s.env.put o.dst .skip) s.heap) s.heap.length w
    rw [h2]
    exact Pg.refl _ _ _ _ _
  · rename_i hg
    rw [guard_ok F hg]
    simp only [if_true]
    split at hx
    · rename_i hi
      have hnv : isVar o = false := by
        unfold isCall at hi
        split at hi <;> first | (cases hi; done) | (rename_i hop; simp [isVar, hop])
      have hd := opOk_dst ko hnv
      split at hx <;> try cases hx
      rename_i g args hcall
      obtain ⟨vs, hr, hrun⟩ := call_reps F hi hcall
      split at hx
      · rename_i hap
        obtain ⟨⟨v, h'⟩, hk, rfl⟩ := Option.map_eq_some_iff.1 hx
        obtain ⟨hen, hc⟩ := HK.2 g args v h' hap hk
        unfold Oper.wp
        rw [hrun hen, Oper.upon_enter]
        refine (hc E L _ _ w vs F.hs hr).mono fun e w' ⟨c, he, hfr, hrep⟩ => ?_
        subst he
        obtain ⟨H, hp⟩ := Pg.world F.hs hfr
        obtain ⟨h1, h2⟩ := (F.move H hp.le (fun _ _ _ => rfl)).put o.dst hd (v := v) (c := c) (.inl hrep)
        refine hN L _ _ h1 ?_ (put_size _ _ _)
        show Pg E L _ _ w L (obOf (s.env.put o.dst v) s.heap) s.heap.length w'
        rw [h2]
        exact hp
      · rename_i hap
        obtain ⟨⟨v, h'⟩, hk, rfl⟩ := Option.map_eq_some_iff.1 hx
        obtain ⟨hen, hc⟩ := HK.1 g args s.heap v h' (by simpa using hap) hk
        unfold Oper.wp
        rw [hrun hen, Oper.upon_enter]
        refine (hc _ L w vs F.hs.enter ⟨hr.1, fun j hj => (hr.2 j hj).mono (le_eb _)⟩).mono fun e w' ⟨c, L', he, H', hp, hrep⟩ => ?_
        subst he
        obtain ⟨H, hp2, hl⟩ := F.hs.leave H' hp
        obtain ⟨h1, h2⟩ := (F.move H hp2.le (fun _ _ _ => rfl)).put o.dst hd (v := v) (c := c) (.inl (hrep.mono hl))
        refine hN _ _ _ h1 ?_ (put_size _ _ _)
        show Pg E L _ _ w (L.back L') (obOf (s.env.put o.dst v) h') h'.length w'
        rw [h2]
        exact hp2
    · obtain ⟨nx, v, w', L', hrun, hnx, hfs, hpg⟩ := aop_sound O F ko hx
      unfold Oper.wp
      rw [hrun]
      rcases hnx with rfl | ⟨rfl, rfl⟩
      · exact hN L' _ _ hfs hpg (put_size _ _ _)
      · exact hN L' _ _ hfs hpg (put_size _ _ _)

/-- A region that is carried out as it is written. -/
theorem list_sound (O : OraOk G) (HK : KOk P G K) {Q : Exit → Act → World → Prop} : ∀ (l : List Oper) (L : Lay) (s sf : St) (a : Act) (w : World), FS P G E f L s a w → (∀ o ∈ l, opOk G f a.tmps.size o = true) → runL P G K f ops l s = some sf →
    (∀ L' a' w', FS P G E f L' sf a' w' → PgS E L s w L' sf w' → a'.tmps.size = a.tmps.size → Q .normal a' w') → wpList P ops Q l a w
  | [], L, s, sf, a, w, F, _, h, hQ => by
    simp only [runL, Option.some.injEq] at h
    subst h
    exact hQ L a w F (Pg.refl _ _ _ _ _) rfl
  | o :: l, L, s, sf, a, w, F, ho, h, hQ => by
    simp only [runL] at h
    split at h <;> try cases h
    rename_i s1 hs
    refine wpList_step fun N hN => ?_
    refine step_sound O HK F (ho o (by simp)) hs fun L' a' w' F' hp hsz => hN _ _ ?_
    exact list_sound O HK l L' s1 sf a' w' F' (fun o ho' => by rw [hsz]; exact ho o (by simp [ho'])) h fun L2 a2 w2 F2 hp2 hsz2 => hQ L2 a2 w2 F2 (hp.trans hp2) (hsz2.trans hsz)
end
end Go.Proofs.YtdnhhdplcminlaaGreatDoor.AI
