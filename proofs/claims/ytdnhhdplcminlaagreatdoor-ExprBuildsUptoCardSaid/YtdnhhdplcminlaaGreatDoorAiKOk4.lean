/- The calculus says what the interpreter says: whole regions, code, loops, calls. -/
import Derived.Test.YtdnhhdplcminlaaGreatDoorAiKOk3
set_option maxHeartbeats 400000
set_option linter.unusedVariables false
set_option linter.unusedSimpArgs false
set_option linter.unusedSectionVars false
namespace Go.Proofs.YtdnhhdplcminlaaGreatDoor.AI

section
variable {P : Program} {G : Cfg} {M : Mode} {f : FuncId}

theorem opsK_ok {ops : Array Oper} : ∀ (l : List Oper) {g : GE} {keys : List Nat} {e : Env} {h : Heap} {k : GE → List Nat → Heap → Prop}, GInv g keys e → opsK P G M f ops l g keys h k →
    ∃ g' keys' e' h', k g' keys' h' ∧ GInv g' keys' e' ∧ Evt (fun m => runL P G (callerOf P G (exec P G m)) f ops l ⟨e, h⟩ = some ⟨e', h'⟩)
  | [], g, keys, e, h, k, I, hk => ⟨g, keys, e, h, hk, I, Evt.of fun m => rfl⟩
  | o :: r, g, keys, e, h, k, I, hk => by
    obtain ⟨g1, keys1, e1, h1, hk1, I1, E1⟩ := stepK_ok I hk
    obtain ⟨g2, keys2, e2, h2, hk2, I2, E2⟩ := opsK_ok r I1 hk1
    exact ⟨g2, keys2, e2, h2, hk2, I2, (E1.and E2).mono fun m ⟨a, b⟩ => by simp only [runL, a]; exact b⟩

theorem GInv.of (e : Env) : GInv (GE.of e) [] e :=
  ⟨fun t => by simp [GE.of, pathB], fun t x hx => (List.not_mem_nil hx).elim, fun t cs h => rfl, fun t h => (by simp [inL] at h)⟩

theorem keepK_ok {g : GE} {keys : List Nat} {e : Env} (I : GInv g keys e) : ∀ (ts : List Nat) (e0 : Env) {k : Env → Prop}, keepK g ts e0 k → ∃ e', keepOnly e0 e ts = some e' ∧ k e'
  | [], e0, k, h => ⟨e0, rfl, h⟩
  | t :: ts, e0, k, h => by
    unfold keepK at h
    split at h
    · rename_i hp
      have he : e t = (g t).v := by rw [I.env t, hp]; simp [pathB]
      split at h
      · exact h.elim
      · rename_i v hv
        obtain ⟨e', h1, h2⟩ := keepK_ok I ts _ h
        refine ⟨e', ?_, h2⟩
        unfold keepOnly
        rw [he]
        split
        · rename_i b off hb
          exact absurd hb (hv b off)
        · exact h1
    · exact h.elim

theorem setT_eq {s : St} {x : Operand} {b : Bool} (h : evalO G s.env x = .bool b) : setT s x b = s := by
  cases x with
  | tmp t =>
    have he : s.env t = .bool b := by
      simp only [evalO] at h
      split at h
      · cases h
      · exact h
    have : s.env.upd t (.bool b) = s.env := by
      funext u
      simp only [Env.upd]
      split
      · rename_i hu; rw [hu, he]
      · rfl
    simp only [setT, this]
  | _ => rfl

theorem execK_ok : ∀ (c : Code) {s : St} {k : Kont}, execK P G M f c s k → ∃ ex s', Runs P G f c s ex s' ∧ k ex s'
  | .skip, s, k, h => ⟨.normal, s, (Evt.of (p := fun m => level P G (callerOf P G (exec P G m)) (exec P G m) f .skip s = some (.normal, s)) fun m => rfl).next fun m hm => hm, h⟩
  | .exit id, s, k, h => ⟨.exit id, s, (Evt.of (p := fun m => level P G (callerOf P G (exec P G m)) (exec P G m) f (.exit id) s = some (.exit id, s)) fun m => rfl).next fun m hm => hm, h⟩
  | .ret, s, k, h => ⟨.ret, s, (Evt.of (p := fun m => level P G (callerOf P G (exec P G m)) (exec P G m) f .ret s = some (.ret, s)) fun m => rfl).next fun m hm => hm, h⟩
  | .region id ops d, s, k, h => by
    unfold execK at h
    obtain ⟨g', keys', e', h', hk, I, E⟩ := opsK_ok ops.toList (GInv.of s.env) h
    obtain ⟨e2, h1, h2⟩ := keepK_ok I _ _ hk
    refine ⟨.normal, ⟨e2, h'⟩, E.next fun m hm => ?_, h2⟩
    show level P G (callerOf P G (exec P G m)) (exec P G m) f (.region id ops d) s = _
    have hm' : runL P G (callerOf P G (exec P G m)) f ops ops.toList s = some ⟨e', h'⟩ := hm
    simp only [level, hm', h1, Option.map_some]
  | .seq a b, s, k, h => by
    unfold execK at h
    obtain ⟨ex, s1, R1, h1⟩ := execK_ok a h
    cases ex with
    | normal =>
      obtain ⟨ex2, s2, R2, h2⟩ := execK_ok b h1
      refine ⟨ex2, s2, (Evt.and R1 R2).next fun m ⟨x, y⟩ => ?_, h2⟩
      show level P G (callerOf P G (exec P G m)) (exec P G m) f (.seq a b) s = _
      simp only [level, x, y]
    | exit id =>
      refine ⟨.exit id, s1, R1.next fun m x => ?_, h1⟩
      show level P G (callerOf P G (exec P G m)) (exec P G m) f (.seq a b) s = _
      simp only [level, x]
    | ret =>
      refine ⟨.ret, s1, R1.next fun m x => ?_, h1⟩
      show level P G (callerOf P G (exec P G m)) (exec P G m) f (.seq a b) s = _
      simp only [level, x]
  | .cond x a b, s, k, h => by
    unfold execK at h
    split at h
    · rename_i t ht
      cases t with
      | true =>
        rw [cond_true, setT_eq ht] at h
        obtain ⟨ex, s1, R1, h1⟩ := execK_ok a h
        refine ⟨ex, s1, R1.next fun m hm => ?_, h1⟩
        show level P G (callerOf P G (exec P G m)) (exec P G m) f (.cond x a b) s = _
        simp only [level, ht, cond_true, hm]
      | false =>
        rw [cond_false, setT_eq ht] at h
        obtain ⟨ex, s1, R1, h1⟩ := execK_ok b h
        refine ⟨ex, s1, R1.next fun m hm => ?_, h1⟩
        show level P G (callerOf P G (exec P G m)) (exec P G m) f (.cond x a b) s = _
        simp only [level, ht, cond_false, hm]
    · exact h.elim
  | .block id b, s, k, h => by
    unfold execK at h
    obtain ⟨ex, s1, R1, h1⟩ := execK_ok b h
    cases ex with
    | normal =>
      refine ⟨.normal, s1, R1.next fun m x => ?_, h1⟩
      show level P G (callerOf P G (exec P G m)) (exec P G m) f (.block id b) s = _
      simp only [level, x]
    | ret =>
      refine ⟨.ret, s1, R1.next fun m x => ?_, h1⟩
      show level P G (callerOf P G (exec P G m)) (exec P G m) f (.block id b) s = _
      simp only [level, x]
    | exit i =>
      simp only [blockC] at h1
      cases hi : Nat.beq i id with
      | true =>
        rw [hi] at h1
        refine ⟨.normal, s1, R1.next fun m x => ?_, h1⟩
        show level P G (callerOf P G (exec P G m)) (exec P G m) f (.block id b) s = _
        simp only [level, x, if_pos (Nat.eq_of_beq_eq_true hi)]
      | false =>
        rw [hi] at h1
        refine ⟨.exit i, s1, R1.next fun m x => ?_, h1⟩
        show level P G (callerOf P G (exec P G m)) (exec P G m) f (.block id b) s = _
        have hne : i ≠ id := by rintro rfl; simp at hi
        simp only [level, x, if_neg hne]
  | .loop b, s, k, h => by
    unfold execK headK at h
    split at h
    · rename_i e he
      obtain ⟨ex, s1, R1, h1⟩ := h
      refine ⟨ex, s1, R1.next fun m hm => ?_, h1⟩
      show level P G (callerOf P G (exec P G m)) (exec P G m) f (.loop b) s = _
      simp only [level, he]
      exact hm
    · exact h.elim
  | .rangeFunc _ _ _ _, s, k, h => by simp [execK] at h
  | .scope _, s, k, h => by simp [execK] at h
  | .label _, s, k, h => by simp [execK] at h
  | .goto _, s, k, h => by simp [execK] at h
  | .refuse _, s, k, h => by simp [execK] at h

theorem headK_ok {b : Code} {k : Kont} {s : St} (h : headK P G f b k s) : ∃ ex s', Runs P G f (.loop b) s ex s' ∧ k ex s' :=
  execK_ok (P := P) (G := G) (M := ⟨false, 0⟩) (.loop b) (by unfold execK; exact h)

/-- One round. -/
theorem loop_round {b : Code} {k : Kont} {s : St} (h : execK P G M f b s (loopC P G f b k)) : LoopP P G f b k s := by
  obtain ⟨ex, s1, R1, h1⟩ := execK_ok b h
  cases ex with
  | normal =>
    obtain ⟨ex2, s2, R2, h2⟩ := headK_ok h1
    exact ⟨ex2, s2, (Evt.and R1 R2).mono fun m ⟨x, y⟩ => by simp only [loopFrom, x, y], h2⟩
  | exit i => exact ⟨.exit i, s1, R1.mono fun m x => by simp only [loopFrom, x], h1⟩
  | ret => exact ⟨.ret, s1, R1.mono fun m x => by simp only [loopFrom, x], h1⟩

theorem label_of {r : Nat} {vals : List AV} {h : Heap} {Q : AV → Heap → Prop} (hb : LabelB P G M f r vals h Q) : LabelP P G M f r vals h Q := by
  unfold LabelB at hb
  unfold LabelP
  split at hb
  · rename_i b k hl
    exact loop_round hb
  · exact hb.elim

theorem body_ok {args : List AV} {h : Heap} {Q : AV → Heap → Prop} (hb : BodyP P G M f args h Q) : ∃ v h', Evt (fun m => bodyOf P G (exec P G m) f args h = some (v, h')) ∧ Q v h' := by
  unfold BodyP at hb
  split at hb
  · rename_i fn hfn
    split at hb
    · rename_i c hc
      obtain ⟨hg, hb⟩ := cond_elim hb
      simp only [Bool.and_eq_true] at hg
      obtain ⟨ex, s1, R1, h1⟩ := execK_ok c hb
      have hlen : args.length = fn.params.size + fn.nfree := Nat.eq_of_beq_eq_true hg.1
      have fin : (match P.funcs[f]? with
          | some fn => match resultsOf P G s1 fn.results.toList with
            | some vs => Q (packR vs) s1.heap
            | none => False
          | none => False) → ∃ vs, resultsOf P G s1 fn.results.toList = some vs ∧ Q (packR vs) s1.heap := by
        intro h2
        rw [hfn] at h2
        simp only at h2
        split at h2
        · rename_i vs hvs
          exact ⟨vs, hvs, h2⟩
        · exact h2.elim
      cases ex with
      | exit i => exact h1.elim
      | normal =>
        obtain ⟨vs, hvs, hq⟩ := fin h1
        refine ⟨packR vs, s1.heap, R1.mono fun m hm => ?_, hq⟩
        simp [bodyOf, hfn, hc, hlen, hg.2, hm, hvs]
      | ret =>
        obtain ⟨vs, hvs, hq⟩ := fin h1
        refine ⟨packR vs, s1.heap, R1.mono fun m hm => ?_, hq⟩
        simp [bodyOf, hfn, hc, hlen, hg.2, hm, hvs]
    · exact hb.elim
  · exact hb.elim

/-- A call over the heap. -/
theorem call_body {args : List AV} {h : Heap} {Q : AV → Heap → Prop} (hp : G.prim f = none) (hu : G.pure f = false) (hh : G.hprim f = none) (hb : BodyP P G M f args h Q) : ∃ v h', Call P G f args h v h' ∧ Q v h' := by
  obtain ⟨v, h', E, hq⟩ := body_ok hb
  refine ⟨v, h', E.mono fun m hm => ?_, hq⟩
  simp [callerOf, hp, hu, hh, hm]

/-- A call with plain data. -/
theorem call_pure {args : List AV} {Q : AV → Prop} (hp : G.prim f = none) (hu : G.pure f = true) (hn : G.nr f = false) (ha : eraseL (G.nk f) noRes args = some args) (hb : BodyP P G M f args [] (retE Q)) : ∃ v, Call P G f args [] v [] ∧ Q v := by
  obtain ⟨r, h', E, hq⟩ := body_ok hb
  have fin : ∀ {v}, eraseW false (resH h' 8) r = some v → Q v → ∃ v, Call P G f args [] v [] ∧ Q v := by
    intro v hv hq
    refine ⟨v, E.mono fun m hm => ?_, hq⟩
    simp [callerOf, hp, hu, ha, hm, hn, hv]
  unfold retE at hq
  split at hq
  · exact fin rfl hq
  · exact fin rfl hq
  · exact fin rfl hq
  · obtain ⟨v, hv, hq⟩ := hq
    exact fin hv hq

/-- The same for a result that is known. -/
theorem pure_is {args : List AV} {v : AV} (hp : G.prim f = none) (hu : G.pure f = true) (hn : G.nr f = false) (ha : eraseL (G.nk f) noRes args = some args) (hb : BodyP P G M f args [] (retE (· = v))) : Call P G f args [] v [] := by
  obtain ⟨w, h1, rfl⟩ := call_pure hp hu hn ha hb
  exact h1
theorem call_is {args : List AV} {h h' : Heap} {v : AV} (hp : G.prim f = none) (hu : G.pure f = false) (hh : G.hprim f = none) (hb : BodyP P G M f args h (fun w k => w = v ∧ k = h')) : Call P G f args h v h' := by
  obtain ⟨w, k, h1, rfl, rfl⟩ := call_body hp hu hh hb
  exact h1
end
end Go.Proofs.YtdnhhdplcminlaaGreatDoor.AI
