/- Values without a mark of the heap; calls that see plain data, and calls that see the heap. -/
import Derived.Test.YtdnhhdplcminlaaGreatDoorAiSwap2
set_option maxHeartbeats 400000
set_option linter.unusedVariables false
set_option linter.unusedSimpArgs false
set_option linter.unusedSectionVars false
namespace Go.Proofs.YtdnhhdplcminlaaGreatDoor.AI
variable [Nu]

theorem eraseL_get {nk : Bool} {R : Nat → Nat → Nat → Option (List AV)} : ∀ {cs ds : List AV}, eraseL nk R cs = some ds → ds.length = cs.length ∧ ∀ j (h : j < cs.length) (h' : j < ds.length), eraseW nk R cs[j] = some ds[j]
  | [], ds, h => by
    simp only [eraseL, Option.some.injEq] at h
    subst h
    exact ⟨rfl, fun j hj => by cases hj⟩
  | v :: cs, ds, h => by
    simp only [eraseL] at h
    split at h <;> try cases h
    rename_i a ha
    split at h <;> try cases h
    rename_i b hb
    obtain ⟨h1, h2⟩ := eraseL_get hb
    refine ⟨by simp [h1], fun j hj hj' => ?_⟩
    cases j with
    | zero => simpa using ha
    | succ j => simpa using h2 j (by simpa using hj) (by simpa using hj')

/-- Cells that are taken in stand for what they stood for. -/
def RGood (R : Nat → Nat → Nat → Option (List AV)) (X Y : RC) : Prop :=
  ∀ id off n cs (ad : Addr), id < X.len → X.isTok id = false → R id off n = some cs → (0 < n → ad = (⟨X.loc (.obj id), 0, none⟩ : Addr).add off) →
    ∃ vs : Nat → Value, (∀ j, j < cs.length → Y.S (ad.add j) (vs j)) ∧ ∀ j (hj : j < cs.length), Rep Y cs[j] (vs j)

theorem RGood.none (X Y : RC) : RGood noRes X Y := fun id off n cs ad _ _ h => by cases h

theorem erase_ok {nk : Bool} {R : Nat → Nat → Nat → Option (List AV)} {X Y : RC} (hS : ∀ a v, X.S a v → Y.S a v) (hR : RGood R X Y) {v : AV} {c : Value} (r : Rep X v c) : ∀ v', eraseW nk R v = some v' → Rep Y v' c := by
  have seqs : ∀ {cs ds : List AV} {vs : Nat → Value}, eraseL nk R cs = some ds → (∀ j (hj : j < cs.length), ∀ v', eraseW nk R cs[j] = some v' → Rep Y v' (vs j)) → ds.length = cs.length ∧ ∀ j (hj : j < ds.length), Rep Y ds[j] (vs j) := by
    intro cs ds vs h ih
    obtain ⟨h1, h2⟩ := eraseL_get h
    exact ⟨h1, fun j hj => ih j (by omega) _ (h2 j (by omega) hj)⟩
  induction r with
  | undef v => intro v' h; simp only [eraseW, Option.some.injEq] at h; subst h; exact .undef _
  | skip => intro v' h; simp [eraseW] at h
  | bool b => intro v' h; simp only [eraseW, Option.some.injEq] at h; subst h; exact .bool _
  | int k n => intro v' h; simp only [eraseW, Option.some.injEq] at h; subst h; exact .int _ _
  | sym k t => intro v' h; simp only [eraseW, Option.some.injEq] at h; subst h; exact .sym _ _
  | str s => intro v' h; simp only [eraseW, Option.some.injEq] at h; subst h; exact .str _
  | nilp => intro v' h; simp only [eraseW, Option.some.injEq] at h; subst h; exact .nilp
  | ptr id off hid ht => intro v' h; simp [eraseW] at h
  | ip cs off a vs hs hr ih =>
    intro v' h
    simp only [eraseW] at h
    obtain ⟨ds, hd, rfl⟩ := Option.map_eq_some_iff.1 h
    obtain ⟨hl, hq⟩ := seqs hd ih
    exact .ip ds off a vs (fun j hj => hS _ _ (hs j (by omega))) hq
  | nilsl => intro v' h; simp only [eraseW, Option.some.injEq] at h; subst h; cases nk <;> first | exact .slN _ | exact .nilsl
  | slN full => intro v' h; simp only [eraseW, eraseL, Option.map_some, Option.some.injEq] at h; subst h; exact .slN _
  | sl full n cs a cap vs hn hm hm' hs hr ih =>
    intro v' h
    simp only [eraseW] at h
    obtain ⟨ds, hd, rfl⟩ := Option.map_eq_some_iff.1 h
    obtain ⟨hl, hq⟩ := seqs hd ih
    exact .sl _ n ds a cap vs hn hm (fun hf => by simp only [Bool.and_eq_true] at hf; exact hm' hf.2) (fun j hj => hS _ _ (hs j (by omega))) hq
  | tkN id => intro v' h; simp only [eraseW, eraseL, Option.map_some] at h; cases nk <;> simp at h <;> subst h <;> first | exact .slN _ | exact .nilsl
  | tk id n cs a cap vs e m c hpos hn hm hid hnm htip hs hr ih =>
    intro v' h
    have h0 : Nat.beq n 0 = false := by
      cases n with
      | zero => omega
      | succ n => rfl
    simp only [eraseW, h0, Bool.and_false, cond_false] at h
    obtain ⟨ds, hd, rfl⟩ := Option.map_eq_some_iff.1 h
    obtain ⟨hl, hq⟩ := seqs hd ih
    exact .sl _ n ds a cap vs hn hm (by simp) (fun j hj => hS _ _ (hs j (by omega))) hq
  | ms id off n c a cap hn hm hid ht ha =>
    intro v' h
    simp only [eraseW] at h
    split at h
    · simp only [Option.some.injEq] at h
      subst h
      exact .sl false n [] a cap (fun _ => undef) hn hm (by simp) (fun j hj => by cases hj) (fun j hj => by cases hj)
    · rename_i hc0
      obtain ⟨ds, hd, rfl⟩ := Option.map_eq_some_iff.1 h
      obtain ⟨vs, h1, h2⟩ := hR id off c ds a (hid (by omega)) (ht (by omega)) hd ha
      exact .sl false n ds a cap vs hn hm (by simp) h1 h2
  | msN id off => intro v' h; simp only [eraseW, if_true, Option.some.injEq] at h; subst h; exact .slN _
  | se a cap hm => intro v' h; simp only [eraseW, Option.some.injEq] at h; subst h; cases nk <;> first | exact .se a cap hm | exact .sl false 0 [] a cap (fun _ => undef) (Nat.zero_le _) hm (by simp) (fun j hj => by cases hj) (fun j hj => by cases hj)
  | nilmap => intro v' h; simp only [eraseW, Option.some.injEq] at h; subst h; exact .nilmap
  | mapv id hid ht => intro v' h; simp [eraseW] at h
  | nilfn => intro v' h; simp only [eraseW, Option.some.injEq] at h; subst h; exact .nilfn
  | fn f caps vs hl hr ih =>
    intro v' h
    simp only [eraseW] at h
    obtain ⟨ds, hd, rfl⟩ := Option.map_eq_some_iff.1 h
    obtain ⟨hl', hq⟩ := seqs (vs := fun j => vs.getD j undef) hd ih
    exact .fn f ds vs (by omega) hq
  | nilif => intro v' h; simp only [eraseW, Option.some.injEq] at h; subst h; exact .nilif
  | agg cs vs hl h1 hr ih =>
    intro v' h
    simp only [eraseW] at h
    obtain ⟨ds, hd, rfl⟩ := Option.map_eq_some_iff.1 h
    obtain ⟨hl', hq⟩ := seqs (vs := fun j => vs.getD j undef) hd ih
    exact .agg ds vs (by omega) h1 hq
  | tup cs vs hl hr ih =>
    intro v' h
    simp only [eraseW] at h
    obtain ⟨ds, hd, rfl⟩ := Option.map_eq_some_iff.1 h
    obtain ⟨hl', hq⟩ := seqs (vs := fun j => vs.getD j undef) hd ih
    exact .tup ds vs (by omega) hq
  | it id hid ht => intro v' h; simp [eraseW] at h

theorem eraseL_ok {nk : Bool} {R : Nat → Nat → Nat → Option (List AV)} {X Y : RC} (hS : ∀ a v, X.S a v → Y.S a v) (hR : RGood R X Y) {cs ds : List AV} {vs : List Value} (h : eraseL nk R cs = some ds) (r : RepL X cs vs) : RepL Y ds vs := by
  obtain ⟨h1, h2⟩ := eraseL_get h
  exact ⟨by rw [h1]; exact r.1, fun j hj => erase_ok hS hR (r.2 j (by omega)) _ (h2 j (by omega) hj)⟩

section
variable {P : Program} {G : Cfg}

theorem empty_ob (h : Heap) (t : Nat) : obOf Env.empty h (.box t) = none := rfl
theorem nil_ob : obOf Env.empty [] = fun _ => none := by
  funext k
  cases k <;> rfl

/-- Variables of the program hold no mark of the heap. -/
def GlobOk (G : Cfg) : Prop := ∀ g cs, G.glob g = some cs → eraseL false noRes cs = some cs

/-- All that the caller may write lies outside; there is no heap. -/
theorem HS.apart {E : Nat → Nat → Prop} {L : Lay} {ob : Key → Option AObj} {len : Nat} {w : World} (hg : GlobOk G) (H : HS P G E L ob len w) :
    HS P G (Un E L ob) L (obOf Env.empty []) 0 w ∧ ∀ a v, (rc E L ob len w).S a v → (rc (Un E L ob) L (obOf Env.empty []) 0 w).S a v := by
  have hS : ∀ a v, (rc E L ob len w).S a v → (rc (Un E L ob) L (obOf Env.empty []) 0 w).S a v := by
    rintro a v ⟨h1, h2, h3⟩
    refine ⟨h1, ?_, h3⟩
    rintro (h | ⟨k, o, hk, _⟩)
    · exact h2 h
    · rw [nil_ob] at hk; cases hk
  refine ⟨⟨fun k o hk => ?_, fun k o hk => ?_, fun k k' o o' hk => ?_, fun k o j hk => ?_, ?_, fun g cs h => ?_, fun id o hk => ?_, fun g hg => (H.ints g hg).imp fun m h => hS _ _ h⟩, hS⟩
  · rw [nil_ob] at hk; cases hk
  · rw [nil_ob] at hk; cases hk
  · rw [nil_ob] at hk; cases hk
  · rw [nil_ob] at hk; cases hk
  · rintro g j (h | ⟨k, o, hk, hl, _⟩)
    · exact H.eold g j h
    · have := H.lt k o hk; omega
  · exact erase_ok (nk := false) hS (RGood.none _ _) (H.glob g cs h) _ (by simp [eraseW, hg g cs h])
  · rw [nil_ob] at hk; cases hk

/-- What a call with plain data has made is frozen. -/
theorem resH_good {E : Nat → Nat → Prop} {L : Lay} {h : Heap} {w : World} (H : HS P G E L (obOf Env.empty h) h.length w) (E0 : Nat → Nat → Prop) (L0 : Lay) (ob0 : Key → Option AObj) (len0 : Nat)
    (hun : ∀ g j, Un E0 L0 ob0 g j → E g j) : ∀ k, RGood (resH h k) (rc E L (obOf Env.empty h) h.length w) (rc E0 L0 ob0 len0 w)
  | 0 => fun id off n cs ad _ _ hr => by cases hr
  | k + 1 => by
    intro id off n cs ad hid ht hr ha
    have hS : ∀ a v, (rc E L (obOf Env.empty h) h.length w).S a v → (rc E0 L0 ob0 len0 w).S a v := fun a v ⟨h1, h2, h3⟩ => ⟨h1, fun hu => h2 (.inl (hun _ _ hu)), h3⟩
    unfold resH at hr
    split at hr <;> try cases hr
    rename_i ds hds
    split at hr <;> try cases hr
    rename_i d hd
    have ho : obOf Env.empty h (.obj id) = some (.arr ds) := by simp [obOf, hds]
    obtain ⟨hle, hdd⟩ := seg_some hd
    obtain ⟨vs, h1, h2, h3⟩ := arr_read H ho hd
    have hrr := eraseL_ok hS (resH_good H E0 L0 ob0 len0 hun k) hr h2.L
    have hlen : cs.length = n := by rw [(eraseL_get hr).1, h3]
    refine ⟨fun j => vs.getD j undef, fun j hj => ?_, hrr.2⟩
    have hj' : j < vs.length := by rw [hrr.1]; exact hj
    rw [ha (by omega)]
    have hc := h1 j (by omega)
    have hL : (rc E L (obOf Env.empty h) h.length w).loc (.obj id) = L.loc (.obj id) := rfl
    rw [hL]
    refine ⟨?_, ?_, ?_⟩
    · exact hc
    · rw [add_lit']
      exact fun hu => H.ne _ _ _ ho (hun _ _ hu)
    · show (vs.getD j undef).oneCell' = true
      have : vs.getD j undef = vs[j] := by simp [hj']
      rw [this]
      exact h2.2.1 _ (List.getElem_mem hj')
end
end Go.Proofs.YtdnhhdplcminlaaGreatDoor.AI
