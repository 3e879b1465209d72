/- A region that is carried out in any order. -/
import Derived.Test.YtdnhhdplcminlaaGreatDoorAiStep
set_option maxHeartbeats 400000
set_option linter.unusedVariables false
set_option linter.unusedSimpArgs false
set_option linter.unusedSectionVars false
namespace Go.Proofs.YtdnhhdplcminlaaGreatDoor.AI
variable [Nu]

def maskOf (acc : List Nat) (es : List Edge) : Nat := es.foldl (fun m e => if Region.binds .any e then m ||| (2 ^ e.on) ||| acc.getD e.on 0 else m) 0
/-- For each operation: all that must come ahead of it. -/
def masksGo : List Oper → List Nat → List Nat
  | [], acc => acc
  | o :: r, acc => masksGo r (acc ++ [maskOf acc o.after.toList])

theorem maskOf_spec {acc : List Nat} {x : Nat} : ∀ (es : List Edge) (m : Nat), (es.foldl (fun m e => if Region.binds .any e then m ||| (2 ^ e.on) ||| acc.getD e.on 0 else m) m).testBit x = true →
    m.testBit x = true ∨ ∃ e ∈ es, Region.binds .any e = true ∧ (e.on = x ∨ (acc.getD e.on 0).testBit x = true)
  | [], m, h => .inl h
  | e :: es, m, h => by
    simp only [List.foldl_cons] at h
    rcases maskOf_spec es _ h with h | ⟨e', he, hb, h⟩
    · split at h
      · rename_i hb
        simp only [Nat.testBit_or, Nat.testBit_two_pow, Bool.or_eq_true, decide_eq_true_eq] at h
        rcases h with (h | h) | h
        · exact .inl h
        · exact .inr ⟨e, by simp, hb, .inl h⟩
        · exact .inr ⟨e, by simp, hb, .inr h⟩
      · exact .inl h
    · exact .inr ⟨e', by simp [he], hb, h⟩

theorem masksGo_pre : ∀ (os : List Oper) (acc : List Nat), acc <+: masksGo os acc
  | [], acc => List.prefix_refl _
  | o :: r, acc => (List.prefix_append _ _).trans (masksGo_pre r _)

theorem prefix_getD {a b : List Nat} (h : a <+: b) {i : Nat} (hi : i < a.length) : b.getD i 0 = a.getD i 0 := by
  obtain ⟨c, rfl⟩ := h
  simp [List.getD_eq_getElem?_getD, List.getElem?_append_left hi]

theorem masksGo_spec : ∀ (os pre : List Oper) (acc : List Nat), acc.length = pre.length → ∀ i o, os[i]? = some o → (∀ e ∈ o.after.toList, Region.binds .any e = true → e.on < pre.length + i) →
    ∀ x, ((masksGo os acc).getD (pre.length + i) 0).testBit x = true → ∃ e ∈ o.after.toList, Region.binds .any e = true ∧ (e.on = x ∨ ((masksGo os acc).getD e.on 0).testBit x = true)
  | [], pre, acc, hl, i, o, hi => by simp at hi
  | o' :: os, pre, acc, hl, 0, o, hi => by
    intro hlt x hx
    simp only [List.getElem?_cons_zero, Option.some.injEq] at hi
    subst hi
    have hp : (acc ++ [maskOf acc o'.after.toList]) <+: masksGo (o' :: os) acc := masksGo_pre os _
    rw [prefix_getD hp (by simp; omega)] at hx
    have hm : (acc ++ [maskOf acc o'.after.toList]).getD (pre.length + 0) 0 = maskOf acc o'.after.toList := by
      rw [← hl]; simp [List.getD_eq_getElem?_getD]
    rw [hm] at hx
    rcases maskOf_spec _ _ hx with h | ⟨e, he, hb, h⟩
    · simp at h
    · refine ⟨e, he, hb, h.imp id fun h => ?_⟩
      have hlt' := hlt e he hb
      have hp2 : acc <+: masksGo (o' :: os) acc := (List.prefix_append _ _).trans hp
      rw [prefix_getD hp2 (by omega)]
      exact h
  | o' :: os, pre, acc, hl, i + 1, o, hi => by
    intro hlt x hx
    have := masksGo_spec os (pre ++ [o']) (acc ++ [maskOf acc o'.after.toList]) (by simp [hl]) i o (by simpa using hi) (fun e he hb => by have := hlt e he hb; simp; omega) x (by
      rw [show (pre ++ [o']).length + i = pre.length + (i + 1) by simp; omega]
      exact hx)
    exact this

def masks (ops : Array Oper) : List Nat := masksGo ops.toList []

/-- What is looked at in the text of a region that is carried out in any order. -/
def drawOk (G : Cfg) (f : FuncId) (ops : Array Oper) : Bool :=
  let ms := masks ops
  (List.range ops.size).all fun i => match ops[i]? with
    | none => true
    | some o => o.after.toList.all (fun e => !Region.binds .any e || e.on < i) &&
      (List.range i).all fun x => (ms.getD i 0).testBit x || match ops[x]? with | some p => pairOk G f ops p o | none => true

theorem drawOk_spec {G : Cfg} {f : FuncId} {ops : Array Oper} (h : drawOk G f ops = true) {i : Nat} {o : Oper} (hi : ops[i]? = some o) :
    (∀ e ∈ o.after.toList, Region.binds .any e = true → e.on < i) ∧ ∀ x p, x < i → ops[x]? = some p → ((masks ops).getD i 0).testBit x = false → pairOk G f ops p o = true := by
  have hlt : i < ops.size := (Array.getElem?_eq_some_iff.1 hi).1
  simp only [drawOk, List.all_eq_true, List.mem_range] at h
  have := h i hlt
  rw [hi] at this
  simp only [Bool.and_eq_true, List.all_eq_true, Bool.or_eq_true, Bool.not_eq_true', decide_eq_true_eq, List.mem_range] at this
  refine ⟨fun e he hb => (this.1 e he).resolve_left (by simp [hb]), fun x p hx hp hm => ?_⟩
  have h2 := (this.2 x hx).resolve_left (by rw [hm]; simp)
  rw [hp] at h2
  exact h2

def Closed (ops : Array Oper) (listed : Array Bool) : Prop := ∀ (j : Nat) (o : Oper), ops[j]? = some o → listed.getD j true = true → ∀ e ∈ o.after, Region.binds .any e = true → listed.getD e.on false = true

section
variable {P : Program} {G : Cfg} {K : Caller} {E : Nat → Nat → Prop} {f : FuncId} {ops : Array Oper}

theorem closed_mask (hd : drawOk G f ops = true) {listed : Array Bool} (hc : Closed ops listed) : ∀ (i : Nat) (o : Oper), ops[i]? = some o → (∀ e ∈ o.after, Region.binds .any e = true → listed.getD e.on false = true) →
    ∀ x, ((masks ops).getD i 0).testBit x = true → listed.getD x false = true := by
  intro i
  induction i using Nat.strongRecOn with
  | _ i ih =>
    intro o hi hall x hx
    obtain ⟨h1, _⟩ := drawOk_spec hd hi
    obtain ⟨e, he, hb, h⟩ := masksGo_spec ops.toList [] [] rfl i o (by simpa using hi) (by simpa using h1) x (by simpa [masks] using hx)
    have hl := hall e (by simpa using he) hb
    rcases h with rfl | h
    · exact hl
    · have hlt := h1 e he hb
      have hsz : i < ops.size := (Array.getElem?_eq_some_iff.1 hi).1
      have ho' : ops[e.on]? = some ops[e.on] := Array.getElem?_eq_getElem (by omega)
      refine ih e.on hlt _ ho' (hc e.on _ ho' ?_) x h
      rcases Nat.lt_or_ge e.on listed.size with hs | hs
      · simp [hs] at hl ⊢; exact hl
      · simp [Array.getElem?_eq_none hs] at hl

def un (ops : Array Oper) (listed : Array Bool) : List Nat := (List.range ops.size).filter fun i => !listed.getD i true

theorem un_lt (ops : Array Oper) (listed : Array Bool) : (un ops listed).Pairwise (· < ·) := List.Pairwise.filter _ List.pairwise_lt_range

theorem un_set {listed : Array Bool} (hsz : listed.size = ops.size) {i : Nat} {u1 u2 : List Nat} (h : un ops listed = u1 ++ i :: u2) : un ops (listed.setIfInBounds i true) = u1 ++ u2 := by
  have hmem : i ∈ un ops listed := by rw [h]; simp
  have hlt : i < ops.size := by
    simp only [un, List.mem_filter, List.mem_range] at hmem
    exact hmem.1
  have h1 : un ops (listed.setIfInBounds i true) = (un ops listed).filter fun j => j != i := by
    unfold un
    rw [List.filter_filter]
    apply List.filter_congr
    intro j hj
    by_cases hji : j = i
    · subst hji
      simp [hsz, hlt]
    · have : (listed.setIfInBounds i true).getD j true = listed.getD j true := getD_set_ne true (Ne.symm hji)
      rw [this]
      simp [hji]
  rw [h1, h]
  have hp := un_lt ops listed
  rw [h, List.pairwise_append] at hp
  obtain ⟨_, h3, h4⟩ := hp
  rw [List.filter_append, List.filter_cons]
  have e1 : u1.filter (fun j => j != i) = u1 := List.filter_eq_self.2 fun x hx => by
    have := h4 x hx i (by simp)
    simp; omega
  have e2 : u2.filter (fun j => j != i) = u2 := List.filter_eq_self.2 fun x hx => by
    have := (List.pairwise_cons.1 h3).1 x hx
    simp; omega
  rw [e1, e2]
  simp

theorem any_sound (O : OraOk G) (HK : KOk P G K) (hd : drawOk G f ops = true) {Q : Exit → Act → World → Prop} : ∀ (fuel : Nat) (listed : Array Bool) (L : Lay) (s sf : St) (a : Act) (w : World), FS P G E f L s a w → (∀ o ∈ ops, opOk G f a.tmps.size o = true) →
    listed.size = ops.size → (un ops listed).length ≤ fuel → Closed ops listed → runL P G K f ops ((un ops listed).filterMap (ops[·]?)) s = some sf →
    (∀ L' a' w', FS P G E f L' sf a' w' → PgS E L s w L' sf w' → a'.tmps.size = a.tmps.size → Q .normal a' w') → wpAny P .any ops Q fuel listed a w := by
  intro fuel
  have fin : ∀ (listed : Array Bool) (L : Lay) (s sf : St) (a : Act) (w : World), FS P G E f L s a w → un ops listed = [] → runL P G K f ops ((un ops listed).filterMap (ops[·]?)) s = some sf →
      (∀ L' a' w', FS P G E f L' sf a' w' → PgS E L s w L' sf w' → a'.tmps.size = a.tmps.size → Q .normal a' w') → Q .normal a w := by
    intro listed L s sf a w F hu h hQ
    rw [hu] at h
    simp only [List.filterMap_nil, runL, Option.some.injEq] at h
    subst h
    exact hQ L a w F (Pg.refl _ _ _ _ _) rfl
  have sub : ∀ (listed : Array Bool) i, i ∈ Region.ready .any ops listed → i ∈ un ops listed := by
    intro listed i hi
    obtain ⟨h1, o, ho, _⟩ := mem_ready.1 hi
    simp only [un, List.mem_filter, List.mem_range, h1, Bool.not_false, and_true]
    exact (Array.getElem?_eq_some_iff.1 ho).1
  induction fuel with
  | zero =>
    intro listed L s sf a w F ho hsz hlen hc h hQ
    have hu : un ops listed = [] := List.eq_nil_of_length_eq_zero (by omega)
    refine ⟨?_, fin listed L s sf a w F hu h hQ⟩
    cases hr : Region.ready .any ops listed with
    | nil => rfl
    | cons i r =>
      have := sub listed i (by rw [hr]; simp)
      rw [hu] at this
      cases this
  | succ fuel ih =>
    intro listed L s sf a w F ho hsz hlen hc h hQ
    refine ⟨fun hr => ?_, fun i hi => ?_⟩
    · -- nothing is ready: nothing is left
      refine fin listed L s sf a w F ?_ h hQ
      cases hu : un ops listed with
      | nil => rfl
      | cons i u =>
        exfalso
        have hmem : i ∈ un ops listed := by rw [hu]; simp
        have hlt : i < ops.size := by simp only [un, List.mem_filter, List.mem_range] at hmem; exact hmem.1
        have hul : listed.getD i true = false := by simp only [un, List.mem_filter, List.mem_range] at hmem; simpa using hmem.2
        have hoi : ops[i]? = some ops[i] := Array.getElem?_eq_getElem hlt
        have : i ∈ Region.ready .any ops listed := by
          refine mem_ready.2 ⟨hul, _, hoi, fun e he hb => ?_⟩
          have hei := (drawOk_spec hd hoi).1 e (by simpa using he) hb
          have hes : e.on < listed.size := by omega
          rcases Bool.eq_false_or_eq_true (listed.getD e.on true) with ht | hf
          · simp [hes] at ht ⊢; exact ht
          · have : e.on ∈ un ops listed := by simp only [un, List.mem_filter, List.mem_range, hf, Bool.not_false, and_true]; omega
            have hp := un_lt ops listed
            rw [hu] at hp this
            rcases List.mem_cons.1 this with h | h
            · omega
            · have := (List.pairwise_cons.1 hp).1 _ h; omega
        rw [hr] at this
        cases this
    · obtain ⟨hul, o, hoi, hall⟩ := mem_ready.1 hi
      obtain ⟨u1, u2, hsplit⟩ := List.append_of_mem (sub listed i hi)
      have hun := un_set hsz hsplit
      have ko : opOk G f a.tmps.size o = true := ho o (Array.mem_of_getElem? hoi)
      rw [hsplit, List.filterMap_append, List.filterMap_cons] at h
      simp only [hoi] at h
      have hp := un_lt ops listed
      rw [hsplit, List.pairwise_append] at hp
      obtain ⟨s1, h1, h2⟩ := ahead ko _ _ s sf F.bx (fun x hx => by
        obtain ⟨xi, hxi, hx0⟩ := List.mem_filterMap.1 hx
        refine ⟨?_, ho x (Array.mem_of_getElem? hx0)⟩
        have hlt : xi < i := hp.2.2 xi hxi i (by simp)
        refine (drawOk_spec hd hoi).2 xi x hlt hx0 ?_
        rcases Bool.eq_false_or_eq_true (((masks ops).getD i 0).testBit xi) with ht | hf
        · have hl := closed_mask hd hc i o hoi hall xi ht
          have hxu : xi ∈ un ops listed := by rw [hsplit]; simp [hxi]
          simp only [un, List.mem_filter, List.mem_range, Bool.not_eq_true'] at hxu
          have hs : xi < listed.size := by omega
          simp [hs] at hl hxu
          rw [hxu.2] at hl
          cases hl
        · exact hf) h
      unfold wpOp
      simp only [hoi]
      have hstep := step_sound (N := wpAny P .any ops Q fuel (listed.setIfInBounds i true)) (Q := Q) O HK F ko h1 (fun L' a' w' F' hpg hsz' => by
        refine ih (listed.setIfInBounds i true) L' s1 sf a' w' F' (fun o ho' => by rw [hsz']; exact ho o ho') (by simp [hsz]) ?_ ?_ (by rw [hun, List.filterMap_append]; exact h2) (fun L2 a2 w2 F2 hp2 hs2 => hQ L2 a2 w2 F2 (hpg.trans hp2) (hs2.trans hsz'))
        · rw [hun]
          rw [hsplit] at hlen
          simp at hlen ⊢
          omega
        · intro j oj hj hlj e he hb
          by_cases hji : j = i
          · subst hji
            rw [hoi] at hj
            cases hj
            exact getD_set_true (hall e he hb)
          · rw [getD_set_ne true (Ne.symm hji)] at hlj
            exact getD_set_true (hc j oj hj hlj e he hb))
      split
      · rename_i hw; rw [if_pos hw] at hstep; exact .inl hstep
      · rename_i hw; rw [if_neg hw] at hstep; exact hstep

end
end Go.Proofs.YtdnhhdplcminlaaGreatDoor.AI
