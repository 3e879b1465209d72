/- Slices of strings and slices; lengths; structs built from parts; cells read behind a pointer. -/
import Derived.Test.YtdnhhdplcminlaaGreatDoorAiOps3
set_option maxHeartbeats 400000
set_option linter.unusedVariables false
set_option linter.unusedSimpArgs false
set_option linter.unusedSectionVars false
namespace Go.Proofs.YtdnhhdplcminlaaGreatDoor.AI
variable [Nu]
section
variable {P : Program} {X : RC} (w : World)

def ORep (X : RC) : Option AV → Option Value → Prop
  | none, none => True
  | some v, some c => Rep X v c
  | _, _ => False

theorem bound_ok {v : Option AV} {c : Option Value} {d y r : Nat} (h : boundV v d y = some r) (hv : ORep X v c) :
    (c = none ∧ r = d) ∨ (∃ u, c = some u ∧ r ≤ y ∧ ∀ (y' : Nat) code, y ≤ y' → (Instr.sliceBound u y' code).run P w = .ok r w) := by
  unfold boundV at h
  split at h
  · cases h
    cases c with
    | none => exact .inl ⟨rfl, rfl⟩
    | some c => exact hv.elim
  · rename_i k i
    split at h <;> try cases h
    rename_i hb
    cases c with
    | none => exact hv.elim
    | some c =>
      cases hv
      refine .inr ⟨_, rfl, by omega, fun y' code hy => ?_⟩
      have : 0 ≤ i ∧ i ≤ (y' : Int) := ⟨hb.1, by omega⟩
      simp [Instr.sliceBound, asIntOf, this]
  · cases h

theorem slb_ok {isSlice : Bool} {n cap l h m : Nat} {lo hi mx : Option AV} {clo chi cmx : Option Value} (hn : n ≤ cap)
    (h1 : boundV mx n n = some m) (h2 : boundV hi n m = some h) (h3 : boundV lo 0 h = some l) (h4 : (mx.isSome && hi.isNone) = false) (r1 : ORep X mx cmx) (r2 : ORep X hi chi) (r3 : ORep X lo clo) :
    ∃ m', (Instr.sliceBounds isSlice n cap clo chi cmx).run P w = .ok (l, h, m') w ∧ l ≤ h ∧ h ≤ m ∧ m ≤ m' ∧ (mx.isSome = true → m' = m) ∧ (mx.isSome = false → m' = cap ∧ m = n) := by
  rcases bound_ok (P := P) w h1 r1 with ⟨rfl, rfl⟩ | ⟨u1, rfl, b1, e1⟩ <;> rcases bound_ok (P := P) w h2 r2 with ⟨rfl, rfl⟩ | ⟨u2, rfl, b2, e2⟩ <;>
    rcases bound_ok (P := P) w h3 r3 with ⟨rfl, rfl⟩ | ⟨u3, rfl, b3, e3⟩ <;> (cases mx <;> try exact r1.elim) <;> (cases hi <;> try exact r2.elim) <;> (try (simp at h4; done))
  · exact ⟨cap, by simp [Instr.sliceBounds], by omega, by omega, hn, by simp, by simp⟩
  · exact ⟨cap, by simp [Instr.sliceBounds, e3 h _ (Nat.le_refl _)], by omega, by omega, hn, by simp, by simp⟩
  · exact ⟨cap, by simp [Instr.sliceBounds, e2 cap _ hn], by omega, by omega, hn, by simp, by simp⟩
  · exact ⟨cap, by simp [Instr.sliceBounds, e2 cap _ hn, e3 h _ (Nat.le_refl _)], by omega, by omega, hn, by simp, by simp⟩
  · exact ⟨m, by simp [Instr.sliceBounds, e1 cap _ hn, e2 m _ (Nat.le_refl _)], by omega, by omega, by omega, by simp, by simp⟩
  · exact ⟨m, by simp [Instr.sliceBounds, e1 cap _ hn, e2 m _ (Nat.le_refl _), e3 h _ (Nat.le_refl _)], by omega, by omega, by omega, by simp, by simp⟩

theorem slice_rep {full : Bool} {n l h m' sz cap : Nat} {cs : List AV} {a : Addr} {vs : Nat → Value} {fl : Bool} (hm : m' ≤ maxLen) (hlh : l ≤ h) (hhm : h ≤ m') (hfl : fl = true → m' = h)
    (hS : ∀ j, j < cs.length → X.S (a.add j) (vs j)) (hR : ∀ j (hj : j < cs.length), Rep X cs[j] (vs j)) :
    Rep X (.sl fl (h - l) ((cs.drop (l * sz)).take ((h - l) * sz))) (.slice (some (if m' = l then a else a.add (l * sz))) (h - l) (m' - l)) := by
  refine .sl fl (h - l) _ _ (m' - l) (fun j => vs (l * sz + j)) (by omega) (by omega) (fun hf => by have := hfl hf; omega) (fun j hj => ?_) (fun j hj => ?_)
  · simp only [List.length_take, List.length_drop] at hj
    by_cases he : m' = l
    · have : h - l = 0 := by omega
      rw [this] at hj
      omega
    · rw [if_neg he, add_add]
      exact hS _ (by omega)
  · simp only [List.length_take, List.length_drop] at hj
    simp only [List.getElem_take, List.getElem_drop]
    exact hR _ (by omega)

theorem str_slice (s : List UInt8) (l h : Nat) : (⟨s.toArray⟩ : ByteArray).extract l h = ⟨((s.drop l).take (h - l)).toArray⟩ := by
  apply ByteArray.ext
  rw [ByteArray.data_extract]
  simp [List.extract_eq_take_drop]

theorem aSlice_ok {t : TypeId} {x v : AV} {lo hi mx : Option AV} {c : Value} {clo chi cmx : Option Value} (h : aSlice P t x lo hi mx = some v) (hx : Rep X x c)
    (r1 : ORep X mx cmx) (r2 : ORep X hi chi) (r3 : ORep X lo clo) : ∃ u, (Instr.sliceAt t c clo chi cmx).run P w = .ok u w ∧ Rep X v u := by
  unfold aSlice at h
  split at h
  · rename_i s hu
    cases hx
    split at h
    · split at h <;> try cases h
      rename_i hh h2
      split at h <;> try cases h
      rename_i ll h3
      have h1 : boundV none s.length s.length = some s.length := rfl
      obtain ⟨m', e, _, _, _, _, hm'⟩ := slb_ok (P := P) (isSlice := false) w (Nat.le_refl s.length) h1 h2 h3 (by simp) (show ORep X none none from trivial) r2 r3
      cases cmx with
      | some c => exact r1.elim
      | none =>
        refine ⟨_, ?_, .str _⟩
        have e' : (Instr.sliceBounds false (⟨s.toArray⟩ : ByteArray).size (⟨s.toArray⟩ : ByteArray).size clo chi none).run P w = .ok (ll, hh, m') w := by
          simpa [ByteArray.size] using e
        simp [Instr.sliceAt, Instr.slice, run_und hu, e', str_slice]
    · cases h
  · rename_i e hu
    split at h <;> try cases h
    rename_i sz hs
    simp only [] at h
    split at h
    · -- nil
      cases hx
      split at h <;> try cases h
      rename_i m h1
      split at h <;> try cases h
      rename_i hh h2
      split at h <;> try cases h
      rename_i h4
      split at h <;> try cases h
      rename_i ll h3
      obtain ⟨m', e', hl, hh', hm, hm1, hm2⟩ := slb_ok (P := P) (isSlice := true) w (Nat.le_refl 0) h1 h2 h3 (eq_false_of_ne_true h4) r1 r2 r3
      have hm0 : m = 0 := by
        cases mx with
        | none => exact (hm2 rfl).2
        | some q =>
          rcases bound_ok (P := P) w h1 r1 with ⟨hc, hr⟩ | ⟨u, _, hr, _⟩
          · exact hr
          · omega
      have hm'0 : m' = 0 := by
        cases mx with
        | none => exact (hm2 rfl).1
        | some q => rw [hm1 rfl, hm0]
      have : hh = 0 := by omega
      have : ll = 0 := by omega
      subst hm'0; subst_vars
      refine ⟨.slice none 0 0, ?_, .nilsl⟩
      simp [Instr.sliceAt, Instr.slice, run_und hu, e', run_size hs]
    · rename_i full n cs
      split at h <;> try cases h
      rename_i m h1
      split at h <;> try cases h
      rename_i hh h2
      split at h <;> try cases h
      rename_i h4
      split at h <;> try cases h
      rename_i ll h3
      rcases hx.sl_inv with ⟨a, cap, vs, rfl, hn, hm0, hf, hS, hR⟩ | ⟨rfl, rfl, rfl⟩
      case inr =>
        obtain ⟨m', e', hl, hh', hm, hm1, hm2⟩ := slb_ok (P := P) (isSlice := true) w (Nat.le_refl 0) h1 h2 h3 (eq_false_of_ne_true h4) r1 r2 r3
        have hm0 : m = 0 := by
          cases mx with
          | none => exact (hm2 rfl).2
          | some q =>
            rcases bound_ok (P := P) w h1 r1 with ⟨hc, hr⟩ | ⟨u, _, hr, _⟩
            · exact hr
            · omega
        have hm'0 : m' = 0 := by
          cases mx with
          | none => exact (hm2 rfl).1
          | some q => rw [hm1 rfl, hm0]
        have e1 : hh = 0 := by omega
        have e2 : ll = 0 := by omega
        have e3 : hh - ll = 0 := by omega
        refine ⟨.slice none 0 0, ?_, ?_⟩
        · simp [Instr.sliceAt, Instr.slice, run_und hu, e', run_size hs, hm'0, e1, e2]
        · rw [e3]
          simpa using Rep.slN _
      obtain ⟨m', e', hl, hh', hm, hm1, hm2⟩ := slb_ok (P := P) (isSlice := true) w hn h1 h2 h3 (eq_false_of_ne_true h4) r1 r2 r3
      refine ⟨_, ?_, slice_rep (m' := m') (a := a) (vs := vs) (full := full) (n := n) (cap := cap) ?_ hl (by omega) ?_ hS hR⟩
      · simp [Instr.sliceAt, Instr.slice, run_und hu, e', run_size hs]
        by_cases hml : m' = ll <;> simp [hml]
      · cases mx with
        | none => rw [(hm2 rfl).1]; exact hm0
        | some q =>
          rw [hm1 rfl]
          rcases bound_ok (P := P) w h1 r1 with ⟨hc, hr⟩ | ⟨u, _, hr, _⟩ <;> omega
      · intro hfl
        simp only [Bool.and_eq_true, Bool.or_eq_true, beq_iff_eq] at hfl
        obtain ⟨hfl, rfl⟩ := hfl
        cases mx with
        | some q => exact hm1 rfl
        | none =>
          have : full = true := by simpa using hfl
          have := hf this
          have := hm2 rfl
          omega
    · rename_i id n cs
      split at h <;> try cases h
      rename_i m h1
      split at h <;> try cases h
      rename_i hh h2
      split at h <;> try cases h
      rename_i h4
      split at h <;> try cases h
      rename_i ll h3
      rcases hx.tk_inv with ⟨a, cap, vs, _, _, _, rfl, hn, hm0, _, _, _, hS, hR, _⟩ | ⟨rfl, rfl, rfl⟩
      case inr =>
        obtain ⟨m', e', hl, hh', hm, hm1, hm2⟩ := slb_ok (P := P) (isSlice := true) w (Nat.le_refl 0) h1 h2 h3 (eq_false_of_ne_true h4) r1 r2 r3
        have hm0 : m = 0 := by
          cases mx with
          | none => exact (hm2 rfl).2
          | some q =>
            rcases bound_ok (P := P) w h1 r1 with ⟨hc, hr⟩ | ⟨u, _, hr, _⟩
            · exact hr
            · omega
        have hm'0 : m' = 0 := by
          cases mx with
          | none => exact (hm2 rfl).1
          | some q => rw [hm1 rfl, hm0]
        have e1 : hh = 0 := by omega
        have e2 : ll = 0 := by omega
        have e3 : hh - ll = 0 := by omega
        refine ⟨.slice none 0 0, ?_, ?_⟩
        · simp [Instr.sliceAt, Instr.slice, run_und hu, e', run_size hs, hm'0, e1, e2]
        · rw [e3]
          simpa using Rep.slN _
      obtain ⟨m', e', hl, hh', hm, hm1, hm2⟩ := slb_ok (P := P) (isSlice := true) w hn h1 h2 h3 (eq_false_of_ne_true h4) r1 r2 r3
      refine ⟨_, ?_, slice_rep (m' := m') (a := a) (vs := vs) (full := false) (n := n) (cap := cap) ?_ hl (by omega) ?_ hS hR⟩
      · simp [Instr.sliceAt, Instr.slice, run_und hu, e', run_size hs]
        by_cases hml : m' = ll <;> simp [hml]
      · cases mx with
        | none => rw [(hm2 rfl).1]; exact hm0
        | some q =>
          rw [hm1 rfl]
          rcases bound_ok (P := P) w h1 r1 with ⟨hc, hr⟩ | ⟨u, _, hr, _⟩ <;> omega
      · intro hfl
        simp only [Bool.and_eq_true, Bool.or_eq_true, beq_iff_eq] at hfl
        obtain ⟨hfl, rfl⟩ := hfl
        cases mx with
        | some q => exact hm1 rfl
        | none => simp at hfl
    · rename_i id off n cc
      split at h <;> try cases h
      rename_i hc
      split at h <;> try cases h
      rename_i m h1
      split at h <;> try cases h
      rename_i hh h2
      split at h <;> try cases h
      rename_i h4
      split at h <;> try cases h
      rename_i ll h3
      rcases hx.ms_inv with ⟨a, cap, rfl, hn, hm0, hid, htk, ha⟩ | ⟨rfl, rfl, rfl⟩
      case inr =>
        obtain ⟨m', e', hl, hh', hm, hm1, hm2⟩ := slb_ok (P := P) (isSlice := true) w (Nat.le_refl 0) h1 h2 h3 (eq_false_of_ne_true h4) r1 r2 r3
        have hmx : mx.isSome = false := by
          simp only [Bool.or_eq_true, decide_eq_true_eq, not_or] at hc
          simpa using hc.1
        have hm3 := hm2 hmx
        have e1 : hh = 0 := by omega
        have e2 : ll = 0 := by omega
        have e3 : hh - ll = 0 := by omega
        refine ⟨.slice none 0 0, ?_, ?_⟩
        · simp [Instr.sliceAt, Instr.slice, run_und hu, e', run_size hs, hm3.1, e1, e2]
        · rw [e3, Nat.zero_mul]
          exact Rep.msN _ _
      obtain ⟨m', e', hl, hh', hm, hm1, hm2⟩ := slb_ok (P := P) (isSlice := true) w hn h1 h2 h3 (eq_false_of_ne_true h4) r1 r2 r3
      have hmx : mx.isSome = false ∧ cc = n * sz := by
        simp only [Bool.or_eq_true, decide_eq_true_eq, not_or] at hc
        exact ⟨by simpa using hc.1, by simpa using hc.2⟩
      have hm3 := hm2 hmx.1
      have hcc : 0 < (hh - ll) * sz → 0 < cc := fun hp => by
        have h1 : 0 < hh - ll := Nat.pos_of_mul_pos_right hp
        have h2 : 0 < sz := Nat.pos_of_mul_pos_left hp
        rw [hmx.2]
        exact Nat.mul_pos (by omega) h2
      refine ⟨_, ?_, .ms id (off + ll * sz) (hh - ll) ((hh - ll) * sz) (if m' = ll then a else a.add (ll * sz)) (m' - ll) (by omega) (by have := hm3.1; omega) (fun hp => hid (hcc hp)) (fun hp => htk (hcc hp)) (fun hp => ?_)⟩
      · simp [Instr.sliceAt, Instr.slice, run_und hu, e', run_size hs]
        by_cases hml : m' = ll <;> simp [hml]
      · have h0 : 0 < hh - ll := by
          rcases Nat.eq_zero_or_pos (hh - ll) with h0 | h0
          · rw [h0] at hp; omega
          · exact h0
        have hsz : 0 < sz := by
          rcases Nat.eq_zero_or_pos sz with h1 | h1
          · rw [h1] at hp; omega
          · exact h1
        rw [if_neg (by omega), ha (by rw [hmx.2]; exact Nat.mul_pos (by omega) hsz), add_add]
    · cases h
  · cases h
end
end Go.Proofs.YtdnhhdplcminlaaGreatDoor.AI
