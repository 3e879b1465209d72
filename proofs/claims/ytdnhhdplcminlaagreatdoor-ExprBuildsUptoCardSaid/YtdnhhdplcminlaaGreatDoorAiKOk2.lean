/- The calculus says what the interpreter says: one operation. -/
import Derived.Test.YtdnhhdplcminlaaGreatDoorAiKOk1
set_option maxHeartbeats 400000
set_option linter.unusedVariables false
set_option linter.unusedSimpArgs false
set_option linter.unusedSectionVars false
namespace Go.Proofs.YtdnhhdplcminlaaGreatDoor.AI

mutual
theorem idemW (b : Bool) : ∀ (v a : AV), eraseW b noRes v = some a → eraseW b noRes a = some a
  | .undef, a, h => by simp only [eraseW, Option.some.injEq] at h; subst h; rfl
  | .skip, a, h => by simp [eraseW] at h
  | .bool x, a, h => by simp only [eraseW, Option.some.injEq] at h; subst h; rfl
  | .int k n, a, h => by simp only [eraseW, Option.some.injEq] at h; subst h; rfl
  | .sym k n, a, h => by simp only [eraseW, Option.some.injEq] at h; subst h; rfl
  | .str x, a, h => by simp only [eraseW, Option.some.injEq] at h; subst h; rfl
  | .nilp, a, h => by simp only [eraseW, Option.some.injEq] at h; subst h; rfl
  | .nilsl, a, h => by
    simp only [eraseW, Option.some.injEq] at h
    subst h
    cases b <;> simp [eraseW, eraseL]
  | .se, a, h => by
    simp only [eraseW, Option.some.injEq] at h
    subst h
    cases b <;> simp [eraseW, eraseL]
  | .sl fl n cs, a, h => by
    simp only [eraseW] at h
    obtain ⟨ds, hd, rfl⟩ := Option.map_eq_some_iff.1 h
    have := idemL b cs ds hd
    simp [eraseW, this]
  | .tk id n cs, a, h => by
    simp only [eraseW] at h
    cases hb : (b && Nat.beq n 0) with
    | true =>
      rw [hb] at h
      simp only [cond_true, Option.some.injEq] at h
      subst h
      simp only [Bool.and_eq_true] at hb
      simp [eraseW, hb.1]
    | false =>
      rw [hb] at h
      simp only [cond_false] at h
      obtain ⟨ds, hd, rfl⟩ := Option.map_eq_some_iff.1 h
      have := idemL b cs ds hd
      simp [eraseW, this]
  | .ms id off n c, a, h => by
    simp only [eraseW] at h
    split at h
    · simp only [Option.some.injEq] at h
      subst h
      simp [eraseW, eraseL]
    · simp [noRes] at h
  | .ptr _ _, a, h => by simp [eraseW] at h
  | .bp _ _, a, h => by simp [eraseW] at h
  | .box _, a, h => by simp [eraseW] at h
  | .mapv _, a, h => by simp [eraseW] at h
  | .it _, a, h => by simp [eraseW] at h
  | .ip cs off, a, h => by
    simp only [eraseW] at h
    obtain ⟨ds, hd, rfl⟩ := Option.map_eq_some_iff.1 h
    have := idemL b cs ds hd
    simp [eraseW, this]
  | .nilmap, a, h => by simp only [eraseW, Option.some.injEq] at h; subst h; rfl
  | .nilfn, a, h => by simp only [eraseW, Option.some.injEq] at h; subst h; rfl
  | .nilif, a, h => by simp only [eraseW, Option.some.injEq] at h; subst h; rfl
  | .fn f cs, a, h => by
    simp only [eraseW] at h
    obtain ⟨ds, hd, rfl⟩ := Option.map_eq_some_iff.1 h
    have := idemL b cs ds hd
    simp [eraseW, this]
  | .agg cs, a, h => by
    simp only [eraseW] at h
    obtain ⟨ds, hd, rfl⟩ := Option.map_eq_some_iff.1 h
    have := idemL b cs ds hd
    simp [eraseW, this]
  | .tup cs, a, h => by
    simp only [eraseW] at h
    obtain ⟨ds, hd, rfl⟩ := Option.map_eq_some_iff.1 h
    have := idemL b cs ds hd
    simp [eraseW, this]
theorem idemL (b : Bool) : ∀ (cs ds : List AV), eraseL b noRes cs = some ds → eraseL b noRes ds = some ds
  | [], ds, h => by simp only [eraseL, Option.some.injEq] at h; subst h; rfl
  | v :: cs, ds, h => by
    simp only [eraseL] at h
    split at h <;> try cases h
    rename_i a ha
    split at h <;> try cases h
    rename_i r hr
    simp [eraseL, idemW b v a ha, idemL b cs r hr]
end

theorem under_true {p : Path} {c : Prop} (h : under p c) (hp : pathB p = true) : c := by
  cases p with
  | nil => exact h
  | cons x r => exact h hp

theorem shapeFs_any {F : TypeId → (List AV → Prop) → Prop} (hF : ∀ t k, F t k → ∃ cs, k cs) : ∀ (ts : List TypeId) (acc : List AV) (k : List AV → Prop), shapeFs F ts acc k → ∃ cs, k cs
  | [], acc, k, h => ⟨acc, h⟩
  | t :: ts, acc, k, h => by
    obtain ⟨cs, h⟩ := hF t _ h
    exact shapeFs_any hF ts _ k h

section
variable {P : Program} {G : Cfg}

theorem shapeC_any (sl : Nat) : ∀ (n : Nat) (t : TypeId) (k : List AV → Prop), shapeC P sl n t k → ∃ cs, k cs
  | 0, t, k, h => h.elim
  | n + 1, t, k, h => by
    unfold shapeC at h
    split at h
    · obtain ⟨x, h⟩ := h; exact ⟨_, h⟩
    · obtain ⟨x, h⟩ := h; exact ⟨_, h⟩
    · obtain ⟨x, h⟩ := h; exact ⟨_, h⟩
    · split at h
      · obtain ⟨x, y, h⟩ := h; exact ⟨_, h⟩
      · obtain ⟨x, y, z, h⟩ := h; exact ⟨_, h⟩
      · obtain ⟨x, y, z, u, h⟩ := h; exact ⟨_, h⟩
    · exact shapeFs_any (shapeC_any sl n) _ _ _ h
    · exact shapeFs_any (shapeC_any sl n) _ _ _ h
    · obtain ⟨x, y, h⟩ := h; exact ⟨_, h⟩
    · obtain ⟨x, h⟩ := h; exact ⟨_, h⟩
    · obtain ⟨x, h⟩ := h; exact ⟨_, h⟩

theorem shapeV_any {sl : Nat} {t : TypeId} {k : AV → Prop} (h : shapeV P sl t k) : ∃ v, k v := by
  unfold shapeV at h
  split at h
  · obtain ⟨cs, h⟩ := shapeC_any _ _ _ _ h; exact ⟨_, h⟩
  · obtain ⟨cs, h⟩ := shapeC_any _ _ _ _ h; exact ⟨_, h⟩
  · obtain ⟨cs, h⟩ := shapeC_any _ _ _ _ h
    split at h
    · exact ⟨_, h⟩
    · exact h.elim

theorem shapeT_any {sl : Nat} : ∀ (ts : List TypeId) (acc : List AV) (k : List AV → Prop), shapeT P sl ts acc k → ∃ cs, k cs
  | [], acc, k, h => ⟨acc, h⟩
  | t :: ts, acc, k, h => by
    obtain ⟨v, h⟩ := shapeV_any h
    exact shapeT_any ts _ k h

theorem shapeR_any {sl : Nat} {t : TypeId} {k : AV → Prop} (h : shapeR P sl t k) : ∃ v, k v := by
  unfold shapeR at h
  split at h
  · obtain ⟨cs, h⟩ := shapeT_any _ _ _ h; exact ⟨_, h⟩
  · exact shapeV_any h

theorem caller_erase {X : FuncId → Code → St → Option (AExit × St)} {g : FuncId} {args a : List AV} (hap : apartF G g = true) (h : eraseL (nkOf G g) noRes args = some a) : callerOf P G X g args [] = callerOf P G X g a [] := by
  have hi := idemL _ _ _ h
  unfold nkOf at h hi
  unfold callerOf
  cases hp : G.prim g with
  | some p =>
    simp only [hp] at h hi
    simp only [h, hi]
  | none =>
    have hpure : G.pure g = true := by
      simp only [apartF, hp, Option.isSome_none, Bool.or_false] at hap
      exact hap
    simp only [hp] at h hi
    simp only [hpure, if_true, h, hi]

theorem PC.evt {g : FuncId} {args : List AV} {v : AV} (hap : apartF G g = true) (h : PC P G g args v) : Evt fun m => callerOf P G (exec P G m) g args [] = some (v, []) := by
  obtain ⟨a, ha, h⟩ := h
  exact h.mono fun m hm => by rw [caller_erase hap ha]; exact hm

/-- What an operation does that is carried out. -/
def effU (P : Program) (G : Cfg) (K : Caller) (f : FuncId) (e : Env) (h : Heap) (o : Oper) : Option Eff :=
  if isCall o then match callOf G e o with
    | some (g, args) => if apartF G g then (K g args []).map fun r => .val r.1 else (K g args h).map fun r => .heap r.2 r.1
    | none => none
  else aop P G f e h o

def Post (x : Eff) (k : AV → Prop) (kb : Nat → List AV → Prop) (kh : Heap → AV → Prop) : Prop :=
  match x with
  | .val v => k v
  | .wbox t cs => kb t cs
  | .heap h v => kh h v

section
variable {M : Mode} {f : FuncId} {o : Oper} {q : Path} {e : Env} {h : Heap} {k : AV → Prop} {kb : Nat → List AV → Prop} {kh : Heap → AV → Prop}

def Fine (P : Program) (G : Cfg) (f : FuncId) (o : Oper) (e : Env) (h : Heap) (k : AV → Prop) (kb : Nat → List AV → Prop) (kh : Heap → AV → Prop) : Prop :=
  ∃ x, effPlain o x = true ∧ Evt (fun m => effU P G (callerOf P G (exec P G m)) f e h o = some x) ∧ Post x k kb kh
def Some3 (k : AV → Prop) (kb : Nat → List AV → Prop) (kh : Heap → AV → Prop) : Prop := ∃ x, Post x k kb kh

theorem fine_aop {x : Eff} (hc : isCall o = false) (hx : aop P G f e h o = some x) (hp : effPlain o x = true) (hk : Post x k kb kh) : Fine P G f o e h k kb kh :=
  ⟨x, hp, Evt.of fun m => by simp [effU, hc, hx], hk⟩

theorem cond_elim {b : Bool} {p : Prop} (h : bif b then p else False) : b = true ∧ p := by
  cases b
  · exact h.elim
  · exact ⟨rfl, h⟩

theorem genK_ok (hc : isCall o = false) (hk : genK P G f o e h k kb kh) : Fine P G f o e h k kb kh := by
  unfold genK at hk
  split at hk
  · rename_i v hx
    obtain ⟨h1, h2⟩ := cond_elim hk
    exact fine_aop hc hx h1 h2
  · rename_i t cs hx
    exact fine_aop hc hx rfl hk
  · rename_i h' v hx
    obtain ⟨h1, h2⟩ := cond_elim hk
    exact fine_aop hc hx h1 h2
  · exact hk.elim
theorem genK_any (hk : genK P G f o e h k kb kh) : Some3 k kb kh := by
  unfold genK at hk
  split at hk
  · exact ⟨.val _, (cond_elim hk).2⟩
  · exact ⟨.wbox _ _, hk⟩
  · exact ⟨.heap _ _, (cond_elim hk).2⟩
  · exact hk.elim

theorem condV_ok {c : Prop} {v : AV} (hv : condV P G e o = some (c, v)) (hc : c) : aop P G f e h o = some (.val v) := by
  unfold condV at hv
  unfold aop
  split at hv
  · rename_i op t x y k hop
    simp only [hop, bin_c hv hc, Option.map_some]
  · rename_i t x i hop
    simp only [hop, index_c hv hc, Option.map_some]
  · rename_i t x i hop
    simp only [hop, indexV_c hv hc, Option.map_some]
  · rename_i t x lo hi mx hop
    have hs := slice_c hv hc
    have hb : ∀ {y : Option AV} {d z n : Nat} {c : Prop}, bndC y d z = some (c, n) → optPlain y = true := by
      intro y d z n c hy
      unfold bndC at hy
      split at hy <;> cases hy <;> rfl
    have hpl : (optPlain (lo.map (evalO G e)) && optPlain (hi.map (evalO G e)) && optPlain (mx.map (evalO G e))) = true := by
      unfold sliceC at hv
      split at hv <;> try cases hv
      rename_i hmx
      rw [hmx]
      split at hv <;> try cases hv
      all_goals
        split at hv <;> try cases hv
        rename_i h1
        split at hv <;> cases hv
        rename_i h2
        first
          | rw [hb h1, hb h2]; rfl
          | (rename_i hs1 _ _; rw [hb h1, hb h2]; rfl)
          | (rename_i h3 _ _ _; rw [hb h1, hb h2]; rfl)
    simp only [hop, hpl, if_true, hs, Option.map_some]
  · cases hv

theorem condK_ok (hc : isCall o = false) (hq : pathB q = true) (hk : condK P G f o q e h k kb kh) : Fine P G f o e h k kb kh := by
  unfold condK at hk
  split at hk
  · rename_i c v hv
    obtain ⟨h1, h2⟩ := cond_elim hk.2
    exact fine_aop hc (condV_ok hv (under_true hk.1 hq)) (by simp [effPlain, h1]) h2
  · exact genK_ok hc hk
theorem condK_any (hk : condK P G f o q e h k kb kh) : Some3 k kb kh := by
  unfold condK at hk
  split at hk
  · exact ⟨.val _, (cond_elim hk.2).2⟩
  · exact genK_any hk

theorem gotK_elim {t : TypeId} {cells : List AV} (hk : gotK P k t cells) : ∃ v, loadV P t cells = some v ∧ plain v = true ∧ nobox v = true ∧ k v := by
  unfold gotK at hk
  split at hk
  · rename_i v hv
    obtain ⟨h1, h2⟩ := cond_elim hk
    simp only [Bool.and_eq_true] at h1
    exact ⟨v, hv, h1.1, h1.2, h2⟩
  · exact hk.elim

theorem loadK_ok {t : TypeId} {a : Operand} (hop : o.op = .load t a) (hq : pathB q = true) (hk : loadK P G M f o q e h k kb kh t (evalO G e a)) : Fine P G f o e h k kb kh := by
  have hc : isCall o = false := by simp [isCall, hop]
  have fin : ∀ {sz : Nat} {cells : List AV}, szOf P t = some sz → readP e h (evalO G e a) sz = some cells → gotK P k t cells → Fine P G f o e h k kb kh := by
    intro sz cells hs hr hg
    obtain ⟨v, h1, h2, h3, h4⟩ := gotK_elim hg
    refine fine_aop hc (x := .val v) ?_ (by simp [effPlain, h3]) h4
    unfold aop
    simp only [hop, hs, hr, h1, Option.bind_some, h2, if_true]
  unfold loadK at hk
  split at hk
  · rename_i cs off ha
    split at hk
    · rename_i sz hs
      obtain ⟨cells, h1, h2⟩ := shapeC_any _ _ _ _ hk
      exact fin hs (by rw [ha]; exact under_true h1 hq) h2
    · exact hk.elim
  · rename_i id off ha
    cases hM : M.ptr with
    | true =>
      simp only [hM, cond_true] at hk
      split at hk
      · rename_i sz hs
        obtain ⟨cells, h1, h2⟩ := shapeC_any _ _ _ _ hk
        exact fin hs (by rw [ha]; exact (under_true h1 hq : readP Env.empty h (.ptr id off) sz = some cells)) h2
      · exact hk.elim
    | false =>
      simp only [hM, cond_false] at hk
      exact genK_ok hc hk
  · exact genK_ok hc hk
theorem loadK_any {t : TypeId} {a : AV} (hk : loadK P G M f o q e h k kb kh t a) : Some3 k kb kh := by
  unfold loadK at hk
  split at hk
  · split at hk
    · obtain ⟨cells, h1, h2⟩ := shapeC_any _ _ _ _ hk
      obtain ⟨v, _, _, _, h4⟩ := gotK_elim h2
      exact ⟨.val v, h4⟩
    · exact hk.elim
  · cases hM : M.ptr with
    | true =>
      simp only [hM, cond_true] at hk
      split at hk
      · obtain ⟨cells, h1, h2⟩ := shapeC_any _ _ _ _ hk
        obtain ⟨v, _, _, _, h4⟩ := gotK_elim h2
        exact ⟨.val v, h4⟩
      · exact hk.elim
    | false =>
      simp only [hM, cond_false] at hk
      exact genK_any hk
  · exact genK_any hk

theorem storeK_ok {t : TypeId} {a x : Operand} (hop : o.op = .store t a x) (hk : storeK P G M f o e h k kb kh t (evalO G e a) (evalO G e x)) : Fine P G f o e h k kb kh := by
  have hc : isCall o = false := by simp [isCall, hop]
  unfold storeK at hk
  split at hk
  · rename_i id off ha
    cases hM : M.ptr with
    | true =>
      simp only [hM, cond_true] at hk
      obtain ⟨h', h1, h2⟩ := hk
      refine fine_aop hc (x := .heap h' .undef) ?_ rfl h2
      unfold aop
      simp only [hop, ha]
      exact h1
    | false =>
      simp only [hM, cond_false] at hk
      exact genK_ok hc hk
  · exact genK_ok hc hk
theorem storeK_any {t : TypeId} {a x : AV} (hk : storeK P G M f o e h k kb kh t a x) : Some3 k kb kh := by
  unfold storeK at hk
  split at hk
  · cases hM : M.ptr with
    | true =>
      simp only [hM, cond_true] at hk
      obtain ⟨h', h1, h2⟩ := hk
      exact ⟨.heap h' .undef, h2⟩
    | false =>
      simp only [hM, cond_false] at hk
      exact genK_any hk
  · exact genK_any hk

theorem lookupK_ok {t : TypeId} {m key : Operand} {ok : Bool} (hop : o.op = .lookup t m key ok) (hq : pathB q = true) (hk : lookupK P q h k t (evalO G e m) (evalO G e key) ok) : Fine P G f o e h k kb kh := by
  have hc : isCall o = false := by simp [isCall, hop]
  unfold lookupK at hk
  split at hk
  · cases ok with
    | true =>
      simp only [cond_true] at hk
      obtain ⟨v, b, h1, h2⟩ := shapeV_any hk
      refine fine_aop hc (x := .val (.tup [v, .bool b])) ?_ (by simp [effPlain, nobox]) h2
      unfold aop
      simp only [hop, under_true h1 hq, Option.map_some]
    | false =>
      simp only [cond_false] at hk
      obtain ⟨v, h1, h2⟩ := shapeV_any hk
      obtain ⟨h3, h4⟩ := cond_elim h2
      refine fine_aop hc (x := .val v) ?_ (by simp [effPlain, h3]) h4
      unfold aop
      simp only [hop, under_true h1 hq, Option.map_some]
  · exact hk.elim
theorem lookupK_any {t : TypeId} {m key : AV} {ok : Bool} (hk : lookupK P q h k t m key ok) : Some3 k kb kh := by
  unfold lookupK at hk
  split at hk
  · cases ok with
    | true =>
      simp only [cond_true] at hk
      obtain ⟨v, b, h1, h2⟩ := shapeV_any hk
      exact ⟨.val _, h2⟩
    | false =>
      simp only [cond_false] at hk
      obtain ⟨v, h1, h2⟩ := shapeV_any hk
      exact ⟨.val v, (cond_elim h2).2⟩
  · exact hk.elim

theorem callK_ok (hc : isCall o = true) (hq : pathB q = true) (hk : callK P G M o q e h k kh) : Fine P G f o e h k kb kh := by
  unfold callK at hk
  split at hk
  · rename_i g args hco
    cases hap : apartF G g with
    | true =>
      simp only [hap, cond_true] at hk
      obtain ⟨v, h1, h2⟩ := shapeR_any hk
      obtain ⟨h3, h4⟩ := cond_elim h2
      exact ⟨.val v, by simp [effPlain, h3], ((under_true h1 hq).evt hap).mono fun m hm => by simp [effU, hc, hco, hap, hm], h4⟩
    | false =>
      simp only [hap, cond_false] at hk
      obtain ⟨v, h', h1, h2⟩ := shapeR_any hk
      obtain ⟨h3, h4⟩ := cond_elim h2
      exact ⟨.heap h' v, by simp [effPlain, h3], Evt.mono h1 fun m hm => by simp [effU, hc, hco, hap, hm], h4⟩
  · exact hk.elim
theorem callK_any (hk : callK P G M o q e h k kh) : Some3 k kb kh := by
  unfold callK at hk
  split at hk
  · rename_i g args hco
    cases hap : apartF G g with
    | true =>
      simp only [hap, cond_true] at hk
      obtain ⟨v, h1, h2⟩ := shapeR_any hk
      exact ⟨.val v, (cond_elim h2).2⟩
    | false =>
      simp only [hap, cond_false] at hk
      obtain ⟨v, h', h1, h2⟩ := shapeR_any hk
      exact ⟨.heap h' v, (cond_elim h2).2⟩
  · exact hk.elim

theorem appendK_ok {args : Array Operand} {ts : Array TypeId} {s x : AV} (hop : o.op = .call { callee := .builtin .append, args := args, argTypes := ts }) (ha : args.toList.map (evalO G e) = [s, x]) (hkk : ∀ v, kh h v → k v) (hk : appendK P G f h k kh ts s x) : Fine P G f o e h k kb kh := by
  have hc : isCall o = false := by simp [isCall, hop]
  have hao : aop P G f e h o = aAppend P (G.rows f) ts h s x := by
    unfold aop
    simp only [hop, ha]
  unfold appendK at hk
  cases hr : G.rows f with
  | true =>
    simp only [hr, cond_true] at hk
    obtain ⟨h', id, off, n, c, h1, h2⟩ := hk
    exact fine_aop hc (x := .heap h' (.ms id off n c)) (by rw [hao, hr]; exact h1) rfl h2
  | false =>
    simp only [hr, cond_false] at hk
    split at hk
    · rename_i id n cs m ys hsrc
      obtain ⟨h', id', h1, h2⟩ := hk
      rcases h1 with h1 | ⟨hm, hys, hh, hid, h1⟩
      · exact fine_aop hc (x := .heap h' (.tk id' (n + m) (cs ++ ys))) (by rw [hao, hr]; exact h1) rfl h2
      · refine fine_aop hc (x := .val (.tk id n cs)) (by rw [hao, hr]; exact h1) (by simp [effPlain, nobox]) (hkk _ ?_)
        rw [hm, hys, hh, hid, Nat.add_zero, List.append_nil] at h2
        exact h2
    · rename_i full n cs m ys hsrc
      by_cases hm : m = 0
      · obtain ⟨h1, h2⟩ := hk.1 hm
        exact fine_aop hc (x := .val (.sl full n cs)) (by rw [hao, hr]; exact h1) (by simp [effPlain, nobox]) h2
      · obtain ⟨h', id', h1, h2⟩ := hk.2 hm
        exact fine_aop hc (x := .heap h' (.tk id' (n + m) (cs ++ ys))) (by rw [hao, hr]; exact h1) rfl h2
    · exact hk.elim

theorem appendK_any {ts : Array TypeId} {s x : AV} (hk : appendK P G f h k kh ts s x) : Some3 k kb kh := by
  unfold appendK at hk
  cases hr : G.rows f with
  | true =>
    simp only [hr, cond_true] at hk
    obtain ⟨h', id, off, n, c, h1, h2⟩ := hk
    exact ⟨.heap _ _, h2⟩
  | false =>
    simp only [hr, cond_false] at hk
    split at hk
    · obtain ⟨h', id', h1, h2⟩ := hk
      exact ⟨.heap _ _, h2⟩
    · rename_i full n cs m ys hsrc
      by_cases hm : m = 0
      · exact ⟨.val _, (hk.1 hm).2⟩
      · obtain ⟨h', id', h1, h2⟩ := hk.2 hm
        exact ⟨.heap _ _, h2⟩
    · exact hk.elim

theorem opK_ok (hkk : ∀ v, kh h v → k v) (hq : pathB q = true) (hk : opK P G M f o q e h k kb kh) : Fine P G f o e h k kb kh := by
  unfold opK at hk
  split at hk
  · rename_i t a hop
    exact loadK_ok hop hq hk
  · rename_i t a x hop
    exact storeK_ok hop hk
  · rename_i t m key ok hop
    exact lookupK_ok hop hq hk
  · rename_i t m key v hop
    obtain ⟨h', h1, h2⟩ := hk
    refine fine_aop (by simp [isCall, hop]) (x := .heap h' .undef) ?_ rfl h2
    unfold aop
    simp only [hop]
    exact h1
  · rename_i t l c hop
    obtain ⟨h', id, off, n, c', h1, h2⟩ := hk
    refine fine_aop (by simp [isCall, hop]) (x := .heap h' (.ms id off n c')) ?_ rfl h2
    unfold aop
    simp only [hop]
    exact h1
  · rename_i x hop
    rcases hk with ⟨h', i, c, h1, h2⟩ | ⟨h', h1, h2⟩
    · refine fine_aop (by simp [isCall, hop]) (x := .heap h' _) ?_ rfl h2
      unfold aop
      simp only [hop]
      exact h1
    · refine fine_aop (by simp [isCall, hop]) (x := .heap h' _) ?_ rfl h2
      unfold aop
      simp only [hop]
      exact h1
  · rename_i x args ts hop
    exact callK_ok (by simp [isCall, hop]) hq hk
  · rename_i args ts hop
    split at hk
    · rename_i s x ha
      exact appendK_ok hop ha hkk hk
    · exact hk.elim
  · rename_i h1 h2 h3 h4 h5 h6 h7 h8
    refine condK_ok ?_ hq hk
    unfold isCall
    split
    · rename_i x args ts hop
      exact absurd hop (h7 _ _ _)
    · rfl

theorem opK_any (hk : opK P G M f o q e h k kb kh) : Some3 k kb kh := by
  unfold opK at hk
  split at hk
  · exact loadK_any hk
  · exact storeK_any hk
  · exact lookupK_any hk
  · obtain ⟨h', h1, h2⟩ := hk
    exact ⟨.heap _ _, h2⟩
  · obtain ⟨h', id, off, n, c', h1, h2⟩ := hk
    exact ⟨.heap _ _, h2⟩
  · rcases hk with ⟨h', i, c, h1, h2⟩ | ⟨h', h1, h2⟩
    · exact ⟨.heap _ _, h2⟩
    · exact ⟨.heap _ _, h2⟩
  · exact callK_any hk
  · split at hk
    · exact appendK_any hk
    · exact hk.elim
  · exact condK_any hk
end
end
end Go.Proofs.YtdnhhdplcminlaaGreatDoor.AI
