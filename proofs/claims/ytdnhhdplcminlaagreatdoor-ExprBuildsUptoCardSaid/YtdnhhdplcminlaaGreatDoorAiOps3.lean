/- Addresses, parts, lengths, slices of slices. -/
import Derived.Test.YtdnhhdplcminlaaGreatDoorAiOps2
set_option maxHeartbeats 400000
set_option linter.unusedVariables false
set_option linter.unusedSimpArgs false
set_option linter.unusedSectionVars false
namespace Go.Proofs.YtdnhhdplcminlaaGreatDoor.AI
variable [Nu]
section
variable {P : Program} {X : RC} (w : World)

theorem add_add (a : Addr) (i j : Nat) : (a.add i).add j = a.add (i + j) := by
  unfold Addr.add
  by_cases hi : i = 0
  · subst hi; simp
  · by_cases hj : j = 0
    · subst hj; simp
    · simp [hi, hj, Nat.add_assoc]

theorem addOff_ok {p q : AV} {k : Nat} {c : Value} (h : addOff p k = some q) (hp : VRep X p c) : ∃ a, c = .pointer (some a) ∧ VRep X q (.pointer (some (a.add k))) := by
  unfold addOff at h
  split at h
  · cases h
    rename_i t off
    obtain ⟨h1, rfl⟩ := hp.bp
    exact ⟨_, rfl, .inr ⟨t, off + k, rfl, h1, by rw [add_add]⟩⟩
  · cases h
    have hp := hp.rep (by simp)
    cases hp
    rename_i id off hid ht
    refine ⟨_, rfl, .inl ?_⟩
    rw [add_add]
    exact .ptr id (off + k) hid ht
  · cases h
    have hp := hp.rep (by simp)
    cases hp
    rename_i cs off a vs hS hR
    refine ⟨_, rfl, .inl ?_⟩
    rw [add_add]
    exact .ip cs (off + k) a vs hS hR
  · cases h

theorem fieldPtr_ok {s : TypeId} {p q : AV} {f : Nat} {c : Value} (h : fieldPtr P s p f = some q) (hp : VRep X p c) : ∃ u, (Instr.fieldAt s c f).run P w = .ok u w ∧ VRep X q u := by
  unfold fieldPtr at h
  split at h <;> try cases h
  rename_i fs hu
  split at h <;> try cases h
  rename_i fd hf
  split at h <;> try cases h
  rename_i n hz hn
  obtain ⟨a, rfl, hq⟩ := addOff_ok h hp
  refine ⟨_, ?_, hq⟩
  have hn0 : ¬ n = 0 := hz
  simp [Instr.fieldAt, run_und hu, hf, Instr.sureAddr, fieldPlace, run_size hn, hn0]

theorem indexPtr_ok {t : TypeId} {x i v : AV} {c d : Value} (h : indexPtr P t x i = some v) (hx : VRep X x c) (hi : Rep X i d) : ∃ u, (Instr.indexAt t c d).run P w = .ok u w ∧ VRep X v u := by
  unfold indexPtr at h
  split at h <;> try cases h
  rename_i k i
  cases hi
  split at h <;> try cases h
  · rename_i e hu
    split at h <;> try cases h
    rename_i sz hs
    split at h <;> try cases h
    · rename_i n cs
      split at h <;> try cases h
      rename_i hb
      have hx := hx.rep (by simp)
      rcases hx.sl_inv with ⟨a, cap, vs, rfl, hn, hm, hf, hS, hR⟩ | ⟨rfl, rfl, rfl⟩
      · exact ⟨_, by simp [Instr.indexAt, asIntOf, run_und hu, run_size hs, hb], .inl (.ip cs _ a vs hS hR)⟩
      · have hb1 := hb.1; have hb2 := hb.2; simp at hb2; omega
    · rename_i n cs
      split at h <;> try cases h
      rename_i hb
      have hx := hx.rep (by simp)
      rcases hx.tk_inv with ⟨a, cap, vs, _, _, _, rfl, _, _, _, _, _, hS, hR, _⟩ | ⟨rfl, rfl, rfl⟩
      · exact ⟨_, by simp [Instr.indexAt, asIntOf, run_und hu, run_size hs, hb], .inl (.ip cs _ a vs hS hR)⟩
      · have hb1 := hb.1; have hb2 := hb.2; simp at hb2; omega
    · rename_i id off n cc
      split at h <;> try cases h
      rename_i hb
      obtain ⟨hb0, hb1, hb2⟩ := hb
      have hx := hx.rep (by simp)
      rcases hx.ms_inv with ⟨a, cap, rfl, _, _, hid, htk, ha⟩ | ⟨_, h0, _⟩
      case inr => omega
      have hid := hid hb2
      have htk := htk hb2
      refine ⟨.pointer (some (a.add (i.toNat * sz))), by simp [Instr.indexAt, asIntOf, run_und hu, run_size hs, hb0, hb1], .inl ?_⟩
      rw [ha hb2, add_add]
      exact .ptr id _ (by assumption) (by assumption)
  · rename_i len e hu
    split at h <;> try cases h
    rename_i sz hs
    split at h <;> try cases h
    rename_i hb
    obtain ⟨a, rfl, hq⟩ := addOff_ok h hx
    exact ⟨_, by simp [Instr.indexAt, asIntOf, Instr.sureAddr, run_und hu, run_size hs, hb], hq⟩

theorem part_ok {t : TypeId} {cs : List AV} {vs : List Value} {off : Nat} {v : AV} (h : partV P t cs off = some v) (hl : RepC X cs vs) : ∃ u, (part t vs.toArray off).run P w = .ok u w ∧ Rep X v u := by
  unfold partV at h
  split at h <;> try cases h
  rename_i sz d hs hu
  split at h
  · rename_i ha
    cases h
    refine ⟨.agg ((vs.drop off).take sz).toArray, ?_, ?_⟩
    · simp [part, run_isAgg w (by rw [hu]; simp), ha, run_size hs]
    · have := hl.L.drop off |>.take sz
      exact .agg _ _ this.1 (fun v hv => hl.2.1 v (List.mem_of_mem_drop (List.mem_of_mem_take hv))) this.2
  · rename_i ha
    obtain ⟨c, hc, hr⟩ := hl.L.get? h
    exact ⟨c, by simp [part, run_isAgg w (by rw [hu]; simp), ha, hc], hr⟩

theorem bytes_get? (s : List UInt8) (n : Nat) : (⟨s.toArray⟩ : ByteArray)[n]? = s[n]? := by
  by_cases h : n < s.length
  · rw [getElem?_pos (⟨s.toArray⟩ : ByteArray) n (show n < (⟨s.toArray⟩ : ByteArray).size by simpa [ByteArray.size] using h), List.getElem?_eq_getElem h]
    rfl
  · rw [getElem?_neg (⟨s.toArray⟩ : ByteArray) n (show ¬ n < (⟨s.toArray⟩ : ByteArray).size by simpa [ByteArray.size] using h), List.getElem?_eq_none (by omega)]

theorem indexVal_ok {t : TypeId} {x i v : AV} {c d : Value} (h : indexVal P t x i = some v) (hx : Rep X x c) (hi : Rep X i d) : ∃ u, (Instr.index t c d).run P w = .ok u w ∧ Rep X v u := by
  unfold indexVal at h
  split at h <;> try cases h
  rename_i k i
  cases hi
  split at h <;> try cases h
  · rename_i s hu
    cases hx
    split at h <;> try cases h
    rename_i h0
    obtain ⟨b, hb, rfl⟩ := Option.map_eq_some_iff.1 h
    have hb' : (⟨s.toArray⟩ : ByteArray)[i.toNat]? = some b := by rw [bytes_get?]; exact hb
    exact ⟨_, by simp [Instr.index, asIntOf, run_und hu, h0, hb'], .int _ _⟩
  · rename_i len e cs hu
    cases hx
    rename_i vs h1 hl hR
    split at h <;> try cases h
    rename_i sz hs
    split at h <;> try cases h
    rename_i hb
    obtain ⟨u, hu', hr⟩ := part_ok w h ⟨hl, h1, hR⟩
    exact ⟨u, by simp [Instr.index, asIntOf, run_und hu, run_size hs, hb, hu'], hr⟩
end
end Go.Proofs.YtdnhhdplcminlaaGreatDoor.AI
