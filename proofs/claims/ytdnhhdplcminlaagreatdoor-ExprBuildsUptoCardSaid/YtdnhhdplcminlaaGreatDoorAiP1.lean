/- Names, paths, searches in lists of strings: what the functions hand back. -/
import Derived.Test.YtdnhhdplcminlaaGreatDoorAiT
import Derived.Test.YtdnhhdplcminlaaGreatDoorAiN1
set_option maxHeartbeats 400000
set_option maxRecDepth 100000
set_option linter.unusedVariables false
set_option linter.unusedSimpArgs false
set_option linter.unusedSectionVars false
namespace Go.Proofs.YtdnhhdplcminlaaGreatDoor.AI
open Go

/-- What stands behind a loop's head. -/
abbrev LP (f r : Nat) (vals : List AV) (h : Heap) (Q : AV → Prop) : Prop := LabelP Tryz.prog cfg ⟨false, 0⟩ f r vals h (retE Q)

theorem up_to {P : Nat → Prop} {n : Nat} (h0 : P n) (hs : ∀ k, k < n → P (k + 1) → P k) {k : Nat} (hk : k ≤ n) : P k := by
  have : ∀ d k, k + d = n → P k := by
    intro d
    induction d with
    | zero => intro k hk; rw [show k = n by omega]; exact h0
    | succ d ih => intro k hk; exact hs k (by omega) (ih (k + 1) (by omega))
  exact this (n - k) k (by omega)

theorem drop_get {α : Type} {l : List α} {k : Nat} (h : k < l.length) : l.drop k = l[k] :: l.drop (k + 1) := List.drop_eq_getElem_cons h

def nameC (b : UInt8) : Bool := !(bif bif decide ((b.toNat : Int) < 33) then true else decide ((b.toNat : Int) > 126) then true else (b.toNat : Int) == 46)
/-- Is a string a name? -/
def nameB (s : Str) : Bool := !(s == []) && decide (s.length ≤ 32) && !((s.getD 0 0).toNat == 36) && s.all nameC

theorem pathname_loop (s : Str) (hs : s.length ≤ 536870912) (h : Heap) (Q : AV → Prop) (hq : Q (.bool (s.all nameC))) : LP 129 4 [.str s, .int .i64 s.length, .int .i64 0] h Q := by
  have : Q (.bool ((s.drop 0).all nameC)) → LP 129 4 [.str s, .int .i64 s.length, .int .i64 ((0 : Nat) : Int)] h Q := by
    refine up_to (P := fun k => Q (.bool ((s.drop k).all nameC)) → LP 129 4 [.str s, .int .i64 s.length, .int .i64 (k : Int)] h Q) ?_ ?_ (Nat.zero_le s.length)
    · intro hq
      refine labelIs ?_
      rw [l129_4]
      simpa using hq
    · intro k hk ih hq
      refine labelIs ?_
      rw [l129_4]
      rw [drop_get hk, List.all_cons] at hq
      have hg : s.getD k 0 = s[k] := by simp [hk]
      have hlt : decide ((k : Int) < (s.length : Int)) = true := by simpa using hk
      rw [hlt, cond_true, Int.toNat_natCast, hg, wrap_of (by omega)]
      refine ⟨by omega, fun _ => by omega, fun _ => by omega, ?_⟩
      cases hc : nameC s[k] with
      | true =>
        rw [hc, Bool.true_and] at hq
        simp only [nameC, Bool.not_eq_true'] at hc
        rw [hc, cond_false]
        exact ih hq
      | false =>
        rw [hc, Bool.false_and] at hq
        simp only [nameC, Bool.not_eq_false'] at hc
        rw [hc, cond_true]
        exact hq
  exact this (by simpa using hq)

theorem valuename_loop (s : Str) (hs : s.length ≤ 536870912) (h : Heap) (Q : AV → Prop) (hq : Q (.bool (s.all nameC))) : LP 167 4 [.str s, .int .i64 s.length, .int .i64 0] h Q := by
  have : Q (.bool ((s.drop 0).all nameC)) → LP 167 4 [.str s, .int .i64 s.length, .int .i64 ((0 : Nat) : Int)] h Q := by
    refine up_to (P := fun k => Q (.bool ((s.drop k).all nameC)) → LP 167 4 [.str s, .int .i64 s.length, .int .i64 (k : Int)] h Q) ?_ ?_ (Nat.zero_le s.length)
    · intro hq
      refine labelIs ?_
      rw [l167_4]
      simpa using hq
    · intro k hk ih hq
      refine labelIs ?_
      rw [l167_4]
      rw [drop_get hk, List.all_cons] at hq
      have hg : s.getD k 0 = s[k] := by simp [hk]
      have hlt : decide ((k : Int) < (s.length : Int)) = true := by simpa using hk
      rw [hlt, cond_true, Int.toNat_natCast, hg, wrap_of (by omega)]
      refine ⟨by omega, fun _ => by omega, fun _ => by omega, ?_⟩
      cases hc : nameC s[k] with
      | true =>
        rw [hc, Bool.true_and] at hq
        simp only [nameC, Bool.not_eq_true'] at hc
        rw [hc, cond_false]
        exact ih hq
      | false =>
        rw [hc, Bool.false_and] at hq
        simp only [nameC, Bool.not_eq_false'] at hc
        rw [hc, cond_true]
        exact hq
  exact this (by simpa using hq)

theorem refname_loop (s : Str) (hs : s.length ≤ 536870912) (h : Heap) (Q : AV → Prop) (hq : Q (.bool (s.all nameC))) : LP 87 4 [.str s, .int .i64 0] h Q := by
  have : Q (.bool ((s.drop 0).all nameC)) → LP 87 4 [.str s, .int .i64 ((0 : Nat) : Int)] h Q := by
    refine up_to (P := fun k => Q (.bool ((s.drop k).all nameC)) → LP 87 4 [.str s, .int .i64 (k : Int)] h Q) ?_ ?_ (Nat.zero_le s.length)
    · intro hq
      refine labelIs ?_
      rw [l87_4]
      simpa using hq
    · intro k hk ih hq
      refine labelIs ?_
      rw [l87_4]
      rw [drop_get hk, List.all_cons] at hq
      have hg : s.getD k 0 = s[k] := by simp [hk]
      have hlt : decide ((k : Int) < (s.length : Int)) = true := by simpa using hk
      rw [hlt, cond_true, Int.toNat_natCast, hg, wrap_of (by omega)]
      refine ⟨by omega, fun _ => by omega, fun _ => by omega, ?_⟩
      cases hc : nameC s[k] with
      | true =>
        rw [hc, Bool.true_and] at hq
        simp only [nameC, Bool.not_eq_true'] at hc
        rw [hc, cond_false]
        exact ih hq
      | false =>
        rw [hc, Bool.false_and] at hq
        simp only [nameC, Bool.not_eq_false'] at hc
        rw [hc, cond_true]
        exact hq
  exact this (by simpa using hq)

theorem name_head {s : Str} (h : s ≠ []) : (0 : Int) < (s.length : Int) := by
  cases s with
  | nil => exact absurd rfl h
  | cons a s => simp

/-- name (path) -/
theorem c129 (s : Str) (hs : s.length ≤ 536870912) : CallT 129 [.str s] [] (.bool (nameB s)) [] := by
  refine pureIs (M := ⟨false, 0⟩) (by kernel_rfl) (by simp) ?_
  rw [n129]
  by_cases h1 : s = []
  · subst h1; simp [nameB]
  have h1' : (s == []) = false := by simpa using h1
  rw [h1', cond_false]
  refine ⟨fun _ => ⟨by omega, name_head h1⟩, ?_⟩
  by_cases h2 : s.length ≤ 32
  · have h2' : decide ((s.length : Int) > 32) = false := by simp; omega
    rw [h2', cond_false]
    cases h3 : ((s.getD 0 0).toNat : Int) == 36 with
    | true =>
      have h3' : ((s.getD 0 0).toNat == 36) = true := by simp at h3 ⊢; omega
      have hn : nameB s = false := by simp only [nameB, h3', Bool.not_true, Bool.and_false, Bool.false_and]
      rw [hn]
      rfl
    | false =>
      have h3' : ((s.getD 0 0).toNat == 36) = false := by simp at h3 ⊢; omega
      rw [cond_false]
      refine pathname_loop s hs _ _ ?_
      simp only [nameB, h1', h3', h2, decide_true, Bool.not_false, Bool.true_and]
  · have h2' : decide ((s.length : Int) > 32) = true := by simp; omega
    simp [h2', nameB, h2]

/-- name (value) -/
theorem c167 (s : Str) (hs : s.length ≤ 536870912) : CallT 167 [.str s] [] (.bool (nameB s)) [] := by
  refine pureIs (M := ⟨false, 0⟩) (by kernel_rfl) (by simp) ?_
  rw [n167]
  by_cases h1 : s = []
  · subst h1; simp [nameB]
  have h1' : (s == []) = false := by simpa using h1
  rw [h1', cond_false]
  refine ⟨fun _ => ⟨by omega, name_head h1⟩, ?_⟩
  by_cases h2 : s.length ≤ 32
  · have h2' : decide ((s.length : Int) > 32) = false := by simp; omega
    rw [h2', cond_false]
    cases h3 : ((s.getD 0 0).toNat : Int) == 36 with
    | true =>
      have h3' : ((s.getD 0 0).toNat == 36) = true := by simp at h3 ⊢; omega
      have hn : nameB s = false := by simp only [nameB, h3', Bool.not_true, Bool.and_false, Bool.false_and]
      rw [hn]
      rfl
    | false =>
      have h3' : ((s.getD 0 0).toNat == 36) = false := by simp at h3 ⊢; omega
      rw [cond_false]
      refine valuename_loop s hs _ _ ?_
      simp only [nameB, h1', h3', h2, decide_true, Bool.not_false, Bool.true_and]
  · have h2' : decide ((s.length : Int) > 32) = true := by simp; omega
    simp [h2', nameB, h2]

/-- Name (the reference) -/
theorem c87 (s : Str) (hs : s.length ≤ 536870912) : CallT 87 [.str s] [] (.bool (nameB s)) [] := by
  refine pureIs (M := ⟨false, 0⟩) (by kernel_rfl) (by simp) ?_
  rw [n87]
  by_cases h1 : s = []
  · subst h1; simp [nameB]
  have h1' : (s == []) = false := by simpa using h1
  have hlen := name_head h1
  have h0 : decide ((s.length : Int) < 1) = false := by simp; omega
  rw [h0, cond_false]
  refine ⟨fun _ => ⟨by omega, name_head h1⟩, ?_⟩
  by_cases h2 : s.length ≤ 32
  · have h2' : decide ((s.length : Int) > 32) = false := by simp; omega
    rw [h2', cond_false]
    cases h3 : ((s.getD 0 0).toNat : Int) == 36 with
    | true =>
      have h3' : ((s.getD 0 0).toNat == 36) = true := by simp at h3 ⊢; omega
      have hn : nameB s = false := by simp only [nameB, h3', Bool.not_true, Bool.and_false, Bool.false_and]
      rw [hn]
      rfl
    | false =>
      have h3' : ((s.getD 0 0).toNat == 36) = false := by simp at h3 ⊢; omega
      rw [cond_false]
      refine refname_loop s hs _ _ ?_
      simp only [nameB, h1', h3', h2, decide_true, Bool.not_false, Bool.true_and]
  · have h2' : decide ((s.length : Int) > 32) = true := by simp; omega
    simp [h2', nameB, h2]

/-- Is a list of strings a path? -/
def pathOkB (p : List Str) : Bool := decide (1 ≤ p.length) && decide (p.length ≤ 16) && p.all nameB

theorem pathvalid_loop (p : List Str) (hs : SsSm p) (h : Heap) (Q : AV → Prop) (hq : Q (.bool (p.all nameB))) : LP 83 4 [.sl false p.length (encS p), .int .i64 p.length, .int .i64 0] h Q := by
  have : Q (.bool ((p.drop 0).all nameB)) → LP 83 4 [.sl false p.length (encS p), .int .i64 p.length, .int .i64 ((0 : Nat) : Int)] h Q := by
    refine up_to (P := fun k => Q (.bool ((p.drop k).all nameB)) → LP 83 4 [.sl false p.length (encS p), .int .i64 p.length, .int .i64 (k : Int)] h Q) ?_ ?_ (Nat.zero_le p.length)
    · intro hq
      refine labelIs ?_
      rw [l83_4]
      simpa using hq
    · intro k hk ih hq
      refine labelIs ?_
      rw [l83_4]
      rw [drop_get hk, List.all_cons] at hq
      have hl := hs.1
      have hlt : decide ((k : Int) < (p.length : Int)) = true := by simpa using hk
      rw [hlt, cond_true, Int.toNat_natCast, wrap_of (by omega)]
      refine ⟨by omega, p[k], seg_S (List.getElem?_eq_getElem hk), nameB p[k], pcIs (by kernel_rfl) (by simp) (c129 _ (hs.2 _ (List.getElem_mem hk))), ?_⟩
      cases hc : nameB p[k] with
      | true =>
        rw [hc, Bool.true_and] at hq
        exact ih hq
      | false =>
        rw [hc, Bool.false_and] at hq
        exact hq
  exact this (by simpa using hq)

/-- path.Valid -/
theorem c83 (p : List Str) (hs : SsSm p) : CallT 83 [.sl false p.length (encS p)] [] (.bool (pathOkB p)) [] := by
  refine pureIs (M := ⟨false, 0⟩) (by kernel_rfl) (by simp) ?_
  rw [n83]
  by_cases h1 : 1 ≤ p.length
  · have h1' : decide ((p.length : Int) < 1) = false := by simp; omega
    rw [h1', cond_false]
    by_cases h2 : p.length ≤ 16
    · have h2' : decide ((p.length : Int) > 16) = false := by simp; omega
      rw [h2', cond_false]
      refine pathvalid_loop p hs _ _ ?_
      simp only [pathOkB, h1, h2, decide_true, Bool.true_and]
    · have h2' : decide ((p.length : Int) > 16) = true := by simp; omega
      simp [h2', pathOkB, h2]
  · have h1' : decide ((p.length : Int) < 1) = true := by simp; omega
    simp [h1', pathOkB, h1]

theorem refpath_loop (p : List Str) (hs : SsSm p) (h : Heap) (Q : AV → Prop) (hq : Q (.bool (p.all nameB))) : LP 86 4 [.sl false p.length (encS p), .int .i64 0] h Q := by
  have : Q (.bool ((p.drop 0).all nameB)) → LP 86 4 [.sl false p.length (encS p), .int .i64 ((0 : Nat) : Int)] h Q := by
    refine up_to (P := fun k => Q (.bool ((p.drop k).all nameB)) → LP 86 4 [.sl false p.length (encS p), .int .i64 (k : Int)] h Q) ?_ ?_ (Nat.zero_le p.length)
    · intro hq
      refine labelIs ?_
      rw [l86_4]
      simpa using hq
    · intro k hk ih hq
      refine labelIs ?_
      rw [l86_4]
      rw [drop_get hk, List.all_cons] at hq
      have hl := hs.1
      have hlt : decide ((k : Int) < (p.length : Int)) = true := by simpa using hk
      rw [hlt, cond_true, Int.toNat_natCast, wrap_of (by omega)]
      refine ⟨by omega, p[k], seg_S (List.getElem?_eq_getElem hk), nameB p[k], pcIs (by kernel_rfl) (by simp) (c87 _ (hs.2 _ (List.getElem_mem hk))), ?_⟩
      cases hc : nameB p[k] with
      | true =>
        rw [hc, Bool.true_and] at hq
        exact ih hq
      | false =>
        rw [hc, Bool.false_and] at hq
        exact hq
  exact this (by simpa using hq)

/-- Valid of paths (the reference) -/
theorem c86 (p : List Str) (hs : SsSm p) : CallT 86 [.sl false p.length (encS p)] [] (.bool (pathOkB p)) [] := by
  refine pureIs (M := ⟨false, 0⟩) (by kernel_rfl) (by simp) ?_
  rw [n86]
  by_cases h1 : 1 ≤ p.length
  · have h1' : decide ((p.length : Int) < 1) = false := by simp; omega
    rw [h1', cond_false]
    by_cases h2 : p.length ≤ 16
    · have h2' : decide ((p.length : Int) > 16) = false := by simp; omega
      rw [h2', cond_false]
      refine refpath_loop p hs _ _ ?_
      simp only [pathOkB, h1, h2, decide_true, Bool.true_and]
    · have h2' : decide ((p.length : Int) > 16) = true := by simp; omega
      simp [h2', pathOkB, h2]
  · have h1' : decide ((p.length : Int) < 1) = true := by simp; omega
    simp [h1', pathOkB, h1]

/-- name (expr) -/
theorem c84 (s : Str) (hs : s.length ≤ 536870912) : CallT 84 [.str s] [] (.bool (nameB s)) [] := by
  refine pureIs (M := ⟨false, 0⟩) (by kernel_rfl) (by simp) ?_
  rw [n84]
  have hp : pathOkB [s] = nameB s := by simp [pathOkB]
  refine ⟨nameB s, pcOf (a := [.sl false 1 [.str s]]) (by kernel_rfl) rfl ?_, rfl⟩
  rw [← hp]
  exact c83 [s] ⟨by simp, fun x hx => by simp at hx; subst hx; exact hs⟩
end Go.Proofs.YtdnhhdplcminlaaGreatDoor.AI

/- Searches, distinct names, the shapes of operators. -/
set_option maxHeartbeats 400000
set_option maxRecDepth 100000
set_option linter.unusedVariables false
set_option linter.unusedSimpArgs false
set_option linter.unusedSectionVars false
namespace Go.Proofs.YtdnhhdplcminlaaGreatDoor.AI
open Go

/-- The place of a string in a list, or -1. -/
def indexS (s : Str) : List Str → Nat → Int
  | [], _ => -1
  | x :: l, k => bif s == x then (k : Int) else indexS s l (k + 1)
theorem indexS_contains (s : Str) : ∀ (l : List Str) (k : Nat), decide (indexS s l k ≥ 0) = l.contains s
  | [], k => by simp [indexS]
  | x :: l, k => by
    rw [indexS, List.contains_cons]
    cases h : s == x with
    | true => simp
    | false => simp [indexS_contains s l (k + 1)]

theorem index_loop (l : List Str) (s : Str) (hl : l.length ≤ 536870912) (h : Heap) (Q : AV → Prop) {k : Nat} (hk : k ≤ l.length) : Q (.int .i64 (indexS s (l.drop k) k)) → LP 130 2 [.sl false l.length (encS l), .str s, .int .i64 l.length, .int .i64 (k : Int)] h Q := by
  refine up_to (P := fun k => Q (.int .i64 (indexS s (l.drop k) k)) → LP 130 2 [.sl false l.length (encS l), .str s, .int .i64 l.length, .int .i64 (k : Int)] h Q) ?_ ?_ hk
  · intro hq
    refine labelIs ?_
    rw [l130_2]
    simpa [indexS] using hq
  · intro k hk ih hq
    refine labelIs ?_
    rw [l130_2]
    rw [drop_get hk, indexS] at hq
    have hlt : decide ((k : Int) < (l.length : Int)) = true := by simpa using hk
    rw [hlt, cond_true, Int.toNat_natCast, wrap_of (by omega)]
    refine ⟨by omega, l[k], seg_S (List.getElem?_eq_getElem hk), ?_⟩
    cases hc : s == l[k] with
    | true =>
      rw [hc, cond_true] at hq
      exact hq
    | false =>
      rw [hc, cond_false] at hq
      exact ih hq

/-- slices.Index -/
theorem c130 (l : List Str) (s : Str) (hl : l.length ≤ 536870912) : CallT 130 [.sl false l.length (encS l), .str s] [] (.int .i64 (indexS s l 0)) [] := by
  refine pureIs (M := ⟨false, 0⟩) (by kernel_rfl) (by simp) ?_
  rw [n130]
  exact index_loop l s hl _ _ (Nat.zero_le _) rfl
/-- slices.Contains -/
theorem c85 (l : List Str) (s : Str) (hl : l.length ≤ 536870912) : CallT 85 [.sl false l.length (encS l), .str s] [] (.bool (l.contains s)) [] := by
  refine pureIs (M := ⟨false, 0⟩) (by kernel_rfl) (by simp) ?_
  rw [n85]
  refine ⟨_, pcIs (by kernel_rfl) (by simp) (c130 l s hl), ?_⟩
  rw [indexS_contains]

/-- Names that differ from each other and from those that were seen. -/
def apartB (nm : Str → Bool) : List Str → List Str → Bool
  | _, [] => true
  | seen, s :: r => bif bif !(nm s) then true else seen.contains s then false else apartB nm (seen ++ [s]) r

theorem named_inner (l : List Str) (hl : l.length ≤ 536870912) (h : Heap) (Q : AV → Prop) {i : Nat} (hi : i < l.length) {k : Nat} (hk : k ≤ i) :
    (((l.take i).drop k).contains l[i] = true → Q (.bool false)) → (((l.take i).drop k).contains l[i] = false → LP 88 2 [.sl false l.length (encS l), .int .i64 ((i + 1 : Nat) : Int)] h Q) →
    LP 88 7 [.sl false l.length (encS l), .int .i64 (i : Int), .int .i64 (k : Int)] h Q := by
  refine up_to (P := fun k => (((l.take i).drop k).contains l[i] = true → Q (.bool false)) → (((l.take i).drop k).contains l[i] = false → LP 88 2 [.sl false l.length (encS l), .int .i64 ((i + 1 : Nat) : Int)] h Q) →
    LP 88 7 [.sl false l.length (encS l), .int .i64 (i : Int), .int .i64 (k : Int)] h Q) ?_ ?_ hk
  · intro h1 h2
    refine labelIs ?_
    rw [l88_7]
    have hlt : decide ((i : Int) < (i : Int)) = false := by simp
    rw [hlt, cond_false, wrap_of (by omega)]
    exact h2 (by simp)
  · intro k hk ih h1 h2
    refine labelIs ?_
    rw [l88_7]
    have hlt : decide ((k : Int) < (i : Int)) = true := by simpa using hk
    have hkl : k < l.length := by omega
    rw [hlt, cond_true, Int.toNat_natCast, Int.toNat_natCast, wrap_of (by omega)]
    refine ⟨by omega, l[k], seg_S (List.getElem?_eq_getElem hkl), by omega, l[i], seg_S (List.getElem?_eq_getElem hi), ?_⟩
    have hd : (l.take i).drop k = l[k] :: (l.take i).drop (k + 1) := by
      rw [drop_get (by simp; omega)]
      simp
    rw [hd, List.contains_cons] at h1 h2
    have hcomm : (l[i] == l[k]) = (l[k] == l[i]) := by
      rw [Bool.eq_iff_iff]; simp only [beq_iff_eq]; exact eq_comm
    rw [hcomm] at h1 h2
    cases hc : l[k] == l[i] with
    | true =>
      rw [hc] at h1
      exact h1 (by simp)
    | false =>
      rw [hc, Bool.false_or] at h1 h2
      exact ih h1 h2

theorem named_loop (l : List Str) (hs : SsSm l) (h : Heap) (Q : AV → Prop) {k : Nat} (hk : k ≤ l.length) : Q (.bool (apartB nameB (l.take k) (l.drop k))) → LP 88 2 [.sl false l.length (encS l), .int .i64 (k : Int)] h Q := by
  refine up_to (P := fun k => Q (.bool (apartB nameB (l.take k) (l.drop k))) → LP 88 2 [.sl false l.length (encS l), .int .i64 (k : Int)] h Q) ?_ ?_ hk
  · intro hq
    refine labelIs ?_
    rw [l88_2]
    simpa [apartB] using hq
  · intro k hk ih hq
    have hl := hs.1
    refine labelIs ?_
    rw [l88_2]
    rw [drop_get hk, apartB] at hq
    have hlt : decide ((k : Int) < (l.length : Int)) = true := by simpa using hk
    rw [hlt, cond_true, Int.toNat_natCast]
    refine ⟨by omega, l[k], seg_S (List.getElem?_eq_getElem hk), nameB l[k], pcIs (by kernel_rfl) (by simp) (c87 _ (hs.2 _ (List.getElem_mem hk))), ?_⟩
    cases hc : nameB l[k] with
    | false =>
      rw [hc] at hq
      exact hq
    | true =>
      rw [hc] at hq
      simp only [Bool.not_true, cond_false] at hq ⊢
      refine named_inner l hl h Q hk (Nat.zero_le k) (fun hd => ?_) (fun hd => ?_)
      · rw [List.drop_zero] at hd
        rw [hd, cond_true] at hq
        exact hq
      · rw [List.drop_zero] at hd
        rw [hd, cond_false] at hq
        refine ih ?_
        rw [List.take_succ_eq_append_getElem hk]
        exact hq

/-- named (the reference) -/
theorem c88 (l : List Str) (hs : SsSm l) : CallT 88 [.sl false l.length (encS l)] [] (.bool (apartB nameB [] l)) [] := by
  refine pureIs (M := ⟨false, 0⟩) (by kernel_rfl) (by simp) ?_
  rw [n88]
  exact named_loop l hs _ _ (Nat.zero_le _) (by simp)

/-- How many kids an operator has, or -1. -/
def kidsN (op : Int) : Int :=
  bif op == 1 || op == 2 || op == 3 then 0
  else bif op == 18 || op == 22 || op == 23 || op == 24 || op == 26 || op == 30 || op == 31 || op == 36 then 1
  else bif op == 19 || op == 25 then 3
  else bif op == 4 || op == 6 || op == 16 || op == 17 || op == 21 || op == 29 || op == 37 || op == 35 || op == 34 then -1
  else 2
/-- Kids (the reference) -/
theorem c79 (op : Int) : CallT 79 [.int .i64 op] [] (.int .i64 (kidsN op)) [] := by
  refine pureIs (M := ⟨false, 0⟩) (by kernel_rfl) (by simp) ?_
  rw [n79]
  unfold kidsN
  repeat' (first | rfl | (rename_i h; simp [h]; done) | (generalize hb : ((op == _) : Bool) = b; cases b) )
end Go.Proofs.YtdnhhdplcminlaaGreatDoor.AI

/- Values: their parts, levels and numbers; rows that a call makes. -/
set_option maxHeartbeats 400000
set_option maxRecDepth 100000
set_option linter.unusedVariables false
set_option linter.unusedSimpArgs false
set_option linter.unusedSectionVars false
namespace Go.Proofs.YtdnhhdplcminlaaGreatDoor.AI
open Go

mutual
theorem monoW {b : Bool} {R : Nat → Nat → Nat → Option (List AV)} : ∀ (v a : AV), eraseW b noRes v = some a → eraseW b R v = some a
  | .undef, a, h => h
  | .skip, a, h => by simp [eraseW] at h
  | .bool x, a, h => h
  | .int k n, a, h => h
  | .sym k n, a, h => h
  | .str x, a, h => h
  | .nilp, a, h => h
  | .nilsl, a, h => h
  | .se, a, h => h
  | .sl fl n cs, a, h => by
    simp only [eraseW] at h ⊢
    obtain ⟨ds, hd, rfl⟩ := Option.map_eq_some_iff.1 h
    simp [monoL cs ds hd]
  | .tk id n cs, a, h => by
    simp only [eraseW] at h ⊢
    cases hb : (b && Nat.beq n 0) with
    | true =>
      rw [hb] at h
      exact h
    | false =>
      rw [hb] at h
      simp only [cond_false] at h ⊢
      obtain ⟨ds, hd, rfl⟩ := Option.map_eq_some_iff.1 h
      simp [monoL cs ds hd]
  | .ms id off n c, a, h => by
    simp only [eraseW] at h ⊢
    split at h
    · rename_i hc; rw [if_pos hc]; exact h
    · simp [noRes] at h
  | .ptr _ _, a, h => by simp [eraseW] at h
  | .bp _ _, a, h => by simp [eraseW] at h
  | .box _, a, h => by simp [eraseW] at h
  | .mapv _, a, h => by simp [eraseW] at h
  | .it _, a, h => by simp [eraseW] at h
  | .ip cs off, a, h => by
    simp only [eraseW] at h ⊢
    obtain ⟨ds, hd, rfl⟩ := Option.map_eq_some_iff.1 h
    simp [monoL cs ds hd]
  | .nilmap, a, h => h
  | .nilfn, a, h => h
  | .nilif, a, h => h
  | .fn f cs, a, h => by
    simp only [eraseW] at h ⊢
    obtain ⟨ds, hd, rfl⟩ := Option.map_eq_some_iff.1 h
    simp [monoL cs ds hd]
  | .agg cs, a, h => by
    simp only [eraseW] at h ⊢
    obtain ⟨ds, hd, rfl⟩ := Option.map_eq_some_iff.1 h
    simp [monoL cs ds hd]
  | .tup cs, a, h => by
    simp only [eraseW] at h ⊢
    obtain ⟨ds, hd, rfl⟩ := Option.map_eq_some_iff.1 h
    simp [monoL cs ds hd]
theorem monoL {b : Bool} {R : Nat → Nat → Nat → Option (List AV)} : ∀ (cs ds : List AV), eraseL b noRes cs = some ds → eraseL b R cs = some ds
  | [], ds, h => h
  | v :: cs, ds, h => by
    simp only [eraseL] at h ⊢
    split at h <;> try cases h
    rename_i a ha
    split at h <;> try cases h
    rename_i r hr
    simp [monoW v a ha, monoL cs r hr]
end

theorem er_tk {R : Nat → Nat → Nat → Option (List AV)} {id n : Nat} {cs : List AV} (h : Cn cs) : eraseW false R (.tk id n cs) = some (.sl false n cs) := by
  simp [eraseW, monoL cs cs h]
theorem er_sl {R : Nat → Nat → Nat → Option (List AV)} {fl : Bool} {n : Nat} {cs : List AV} (h : Cn cs) : eraseW false R (.sl fl n cs) = some (.sl false n cs) := by
  simp [eraseW, monoL cs cs h]

noncomputable def rowB (t el sz : Nat) : Bool :=
  match Tryz.prog.underlying t, Tryz.prog.info? el, zeroOf Tryz.prog el with
  | some (.slice e), some i, some z => Nat.beq e el && (Nat.beq i.size sz && (!(Nat.beq sz 0) && (!(Nat.beq i.bytes 0) && (Nat.ble i.bytes 65536 && (solid z && Nat.beq (cellsOf z).length sz)))))
  | _, _, _ => false

/-- An append to a row of the call's own. -/
theorem app_own {t el sz : Nat} (T : rowB t el sz = true) {h : Heap} {id n : Nat} {cs : List AV} {x : AV} {m : Nat} {ys : List AV} (hx : srcCells h x = some (m, ys)) (hy : ys.length = m * sz) (hm : 0 < m) (hb : n + m ≤ 1073741824) (hc : cs.length = n * sz)
    (ho : 0 < n → h[id]? = some (some (.tok el n cs.length))) :
    ∃ h' id', AppT Tryz.prog #[t, t] h id n cs x m ys h' id' ∧ h'[id']? = some (some (.tok el (n + m) (cs ++ ys).length)) ∧ (0 < n → id' = id ∧ h' = h.set id (some (.tok el (n + m) (cs ++ ys).length))) ∧ (n = 0 → id' = h.length ∧ h' = h ++ [some (.tok el (n + m) (cs ++ ys).length)]) := by
  unfold rowB at T
  split at T <;> try cases T
  rename_i e i z hu hi hz
  simp only [Bool.and_eq_true, Bool.not_eq_true'] at T
  obtain ⟨h1, h2, h3, h4, h5, h6, h7⟩ := T
  have h1 : e = el := Nat.eq_of_beq_eq_true h1
  have h2 : i.size = sz := Nat.eq_of_beq_eq_true h2
  have h7 : (cellsOf z).length = sz := Nat.eq_of_beq_eq_true h7
  have h5 : i.bytes ≤ 65536 := Nat.le_of_ble_eq_true h5
  have h3 : sz ≠ 0 := fun h0 => by subst h0; simp at h3
  have h4 : i.bytes ≠ 0 := fun h0 => by rw [h0] at h4; simp at h4
  subst h1
  have hbase : ∀ (s : AV), aAppend Tryz.prog false #[t, t] h s x = match s with
      | .tk id n cs => if m = 0 then some (.val (.tk id n cs)) else if n = 0 then (if maxN < m then none else some (grown false h e m ys)) else if maxN < n + m || cs.length ≠ n * i.size then none else match h[id]? with
        | some (some (.tok el' k _)) => if k = n ∧ el' = e then some (.heap (h.set id (some (.tok e (n + m) (cs.length + ys.length)))) (.tk id (n + m) (cs ++ ys))) else none
        | _ => none
      | s => aAppend Tryz.prog false #[t, t] h s x := by
    intro s
    split
    · have hcond : (decide (i.size = 0) || decide (i.bytes = 0) || decide (65536 < i.bytes) || decide (ys.length ≠ m * i.size) || !solid z || decide ((cellsOf z).length ≠ i.size)) = false := by
        simp only [h2, h6, h7, hy, ne_eq, not_true_eq_false, decide_false, Bool.not_true, Bool.or_false, Bool.or_eq_false_iff, decide_eq_false_iff_not]
        exact ⟨⟨h3, h4⟩, by omega⟩
      unfold aAppend
      simp only [ne_eq, not_true_eq_false, if_false, hu, hi, hz, hx]
      simp only [ne_eq] at hcond
      rw [hcond]
      rfl
    · rfl
  have hm0 : m ≠ 0 := by omega
  rcases Nat.eq_zero_or_pos n with h0 | h0
  · subst h0
    have hcs : cs = [] := List.eq_nil_of_length_eq_zero (by simpa using hc)
    subst hcs
    refine ⟨h ++ [some (.tok e (0 + m) ([] ++ ys).length)], h.length, .inl ?_, by simp, fun h9 => absurd h9 (Nat.lt_irrefl 0), fun _ => ⟨rfl, rfl⟩⟩
    rw [hbase]
    simp only [hm0, if_false, if_true]
    rw [if_neg (by simp only [maxN]; omega)]
    simp [grown]
  · have hq := ho h0
    have hlt : id < h.length := (List.getElem?_eq_some_iff.1 hq).1
    refine ⟨h.set id (some (.tok e (n + m) (cs ++ ys).length)), id, .inl ?_, by simp [hlt], fun _ => ⟨rfl, rfl⟩, fun h9 => by omega⟩
    rw [hbase]
    simp only [hm0, if_false, show n ≠ 0 by omega]
    have hcond : (decide (maxN < n + m) || decide (cs.length ≠ n * i.size)) = false := by
      simp only [h2, hc, ne_eq, not_true_eq_false, decide_false, Bool.or_false, decide_eq_false_iff_not]
      exact Nat.not_lt.2 hb
    rw [hcond]
    simp [hq]

theorem encVs_append (a b : List V) : encVs (a ++ b) = encVs a ++ encVs b := by simp [encVs_eq]
theorem encVs_one (v : V) : encVs [v] = cV v := by rw [← encV_eq]; simp [encVs]
theorem encFs_append (a b : List F) : encFs (a ++ b) = encFs a ++ encFs b := by simp [encFs_eq]
theorem encFs_one (v : F) : encFs [v] = cF v := by rw [← encF_eq]; simp [encFs]
theorem encEs_append (a b : List E) : encEs (a ++ b) = encEs a ++ encEs b := by simp [encEs_eq]
theorem encEs_one (v : E) : encEs [v] = cE v := by rw [← encE_eq]; simp [encEs]
@[simp] theorem Cn_cV (v : V) : Cn (cV v) := by rw [← encV_eq]; simp
@[simp] theorem Cn_cF (v : F) : Cn (cF v) := by rw [← encF_eq]; simp
@[simp] theorem Cn_cE (v : E) : Cn (cE v) := by rw [← encE_eq]; simp

/-- Parts (the reference) -/
def partsV (v : V) : List V := (bif v.kind == 6 then v.list else []) ++ (bif v.kind == 5 then v.doc.map F.value else [])

theorem parts_list (v : V) (hv : v.Sm) (hk : v.kind = 6) (Q : AV → Prop) (hq : Q (.sl false v.list.length (encVs v.list))) {k : Nat} (hkl : k ≤ v.list.length) : ∀ (h : Heap) (id : Nat), (0 < k → h[id]? = some (some (.tok 26 k (encVs (v.list.take k)).length))) →
    LP 147 4 [.box (cV v), .tk id k (encVs (v.list.take k)), .int .i64 (k : Int)] h Q := by
  refine up_to (P := fun k => ∀ (h : Heap) (id : Nat), (0 < k → h[id]? = some (some (.tok 26 k (encVs (v.list.take k)).length))) →
    LP 147 4 [.box (cV v), .tk id k (encVs (v.list.take k)), .int .i64 (k : Int)] h Q) ?_ ?_ hkl
  · intro h id ho
    refine labelIs ?_
    rw [l147_4]
    have hlt : decide ((v.list.length : Int) < (v.list.length : Int)) = false := by simp
    have h5 : (v.kind == (5 : Int)) = false := by rw [hk]; rfl
    rw [hlt, cond_false, h5, cond_false]
    refine ⟨_, er_tk (by simp), ?_⟩
    rw [List.take_length]
    exact hq
  · intro k hk1 ih h id ho
    have hl := hv.list
    refine labelIs ?_
    rw [l147_4]
    have hlt : decide ((k : Int) < (v.list.length : Int)) = true := by simpa using hk1
    rw [hlt, cond_true, Int.toNat_natCast, wrap_of (by omega)]
    refine ⟨by omega, _, _, _, _, _, _, _, seg_V (List.getElem?_eq_getElem hk1), ?_⟩
    obtain ⟨h', id', h1, h2, _⟩ := app_own (t := 23) (el := 26) (sz := 5) (by kernel_rfl) (h := h) (id := id) (n := k) (cs := encVs (v.list.take k)) (x := .sl true 1 (cV v.list[k])) (m := 1) (ys := cV v.list[k]) rfl rfl (by omega) (by omega) (by simp; omega) ho
    refine ⟨h', id', h1, ?_⟩
    have ht : encVs (v.list.take k) ++ cV v.list[k] = encVs (v.list.take (k + 1)) := by
      rw [List.take_succ_eq_append_getElem hk1, encVs_append, encVs_one]
    rw [ht] at h2 ⊢
    exact ih h' id' (fun _ => h2)

theorem parts_doc (v : V) (hv : v.Sm) (hk : v.kind = 5) (Q : AV → Prop) (hq : Q (.sl false v.doc.length (encVs (v.doc.map F.value)))) {k : Nat} (hkl : k ≤ v.doc.length) : ∀ (h : Heap) (id : Nat), (0 < k → h[id]? = some (some (.tok 26 k (encVs ((v.doc.take k).map F.value)).length))) →
    LP 147 9 [.box (cV v), .tk id k (encVs ((v.doc.take k).map F.value)), .int .i64 (k : Int)] h Q := by
  refine up_to (P := fun k => ∀ (h : Heap) (id : Nat), (0 < k → h[id]? = some (some (.tok 26 k (encVs ((v.doc.take k).map F.value)).length))) →
    LP 147 9 [.box (cV v), .tk id k (encVs ((v.doc.take k).map F.value)), .int .i64 (k : Int)] h Q) ?_ ?_ hkl
  · intro h id ho
    refine labelIs ?_
    rw [l147_9]
    have hlt : decide ((v.doc.length : Int) < (v.doc.length : Int)) = false := by simp
    rw [hlt, cond_false]
    refine ⟨_, er_tk (by simp), ?_⟩
    rw [List.take_length]
    exact hq
  · intro k hk1 ih h id ho
    have hl := hv.doc
    refine labelIs ?_
    rw [l147_9]
    have hlt : decide ((k : Int) < (v.doc.length : Int)) = true := by simpa using hk1
    rw [hlt, cond_true, Int.toNat_natCast, wrap_of (by omega)]
    refine ⟨by omega, _, _, _, _, _, _, _, seg_Fv (List.getElem?_eq_getElem hk1), ?_⟩
    obtain ⟨h', id', h1, h2, _⟩ := app_own (t := 23) (el := 26) (sz := 5) (by kernel_rfl) (h := h) (id := id) (n := k) (cs := encVs ((v.doc.take k).map F.value)) (x := .sl true 1 (cV v.doc[k].value)) (m := 1) (ys := cV v.doc[k].value) rfl rfl (by omega) (by omega) (by simp; omega) ho
    refine ⟨h', id', h1, ?_⟩
    have ht : encVs ((v.doc.take k).map F.value) ++ cV v.doc[k].value = encVs ((v.doc.take (k + 1)).map F.value) := by
      rw [List.take_succ_eq_append_getElem hk1, List.map_append, encVs_append, List.map_cons, List.map_nil, encVs_one]
    rw [ht] at h2 ⊢
    exact ih h' id' (fun _ => h2)

theorem c147 (v : V) (hv : v.Sm) : CallT 147 [.agg (cV v)] [] (.sl false (partsV v).length (encVs (partsV v))) [] := by
  refine pureIs (M := ⟨false, 0⟩) (by kernel_rfl) (by simp) ?_
  rw [n147]
  by_cases h6 : v.kind = 6
  · have e6 : (v.kind == (6 : Int)) = true := by simpa using h6
    have e5 : (v.kind == (5 : Int)) = false := by rw [h6]; rfl
    rw [e6, cond_true]
    refine parts_list v hv h6 _ ?_ (Nat.zero_le _) [] 0 (fun h => by omega)
    simp [partsV, e6, e5]
  · have e6 : (v.kind == (6 : Int)) = false := by simpa using h6
    rw [e6, cond_false]
    by_cases h5 : v.kind = 5
    · have e5 : (v.kind == (5 : Int)) = true := by simpa using h5
      rw [e5, cond_true]
      refine parts_doc v hv h5 _ ?_ (Nat.zero_le _) [] 0 (fun h => by omega)
      simp [partsV, e6, e5]
    · have e5 : (v.kind == (5 : Int)) = false := by simpa using h5
      rw [e5, cond_false]
      refine ⟨_, rfl, ?_⟩
      simp [partsV, e6, e5, encVs]

theorem partsV_mem {v x : V} (hv : v.Sm) (hx : x ∈ partsV v) : x.Sm := by
  unfold partsV at hx
  rcases List.mem_append.1 hx with hx | hx
  · cases h : v.kind == 6 with
    | true => rw [h] at hx; exact hv.elem hx
    | false => rw [h] at hx; cases hx
  · cases h : v.kind == 5 with
    | true =>
      rw [h] at hx
      obtain ⟨f, hf, rfl⟩ := List.mem_map.1 hx
      exact (hv.field hf).value
    | false => rw [h] at hx; cases hx
theorem partsV_len {v : V} (hv : v.Sm) : (partsV v).length ≤ 536870912 := by
  unfold partsV
  cases h6 : v.kind == 6 with
  | true =>
    have e5 : (v.kind == (5 : Int)) = false := by
      have : v.kind = 6 := by simpa using h6
      rw [this]; rfl
    rw [e5]
    simpa using hv.list
  | false =>
    cases h5 : v.kind == 5 with
    | true => simpa using hv.doc
    | false => simp
end Go.Proofs.YtdnhhdplcminlaaGreatDoor.AI

/- Values: levels, numbers, sameness; in the reference. -/
set_option maxHeartbeats 400000
set_option maxRecDepth 100000
set_option linter.unusedVariables false
set_option linter.unusedSimpArgs false
set_option linter.unusedSectionVars false
namespace Go.Proofs.YtdnhhdplcminlaaGreatDoor.AI
open Go

mutual
theorem V.ind' {P : V → Prop} (h : ∀ v : V, (∀ x ∈ v.list, P x) → (∀ f ∈ v.doc, P f.value) → P v) : ∀ v : V, P v
  | .mk k i t l d => h _ (V.indL h l) (V.indF h d)
theorem V.indL {P : V → Prop} (h : ∀ v : V, (∀ x ∈ v.list, P x) → (∀ f ∈ v.doc, P f.value) → P v) : ∀ (l : List V) (x : V), x ∈ l → P x
  | [], x, hx => by cases hx
  | v :: l, x, hx => (List.mem_cons.1 hx).elim (fun e => by rw [e]; exact V.ind' h v) (fun hx => V.indL h l x hx)
theorem V.indF {P : V → Prop} (h : ∀ v : V, (∀ x ∈ v.list, P x) → (∀ f ∈ v.doc, P f.value) → P v) : ∀ (l : List F) (f : F), f ∈ l → P f.value
  | [], x, hx => by cases hx
  | .mk n v :: l, x, hx => (List.mem_cons.1 hx).elim (fun e => by rw [e]; exact V.ind' h v) (fun hx => V.indF h l x hx)
end

mutual
def V.depth : V → Nat
  | .mk k _ _ l d => 1 + max (bif k == 6 then depthVs l else 0) (bif k == 5 then depthFs d else 0)
def depthVs : List V → Nat
  | [] => 0
  | v :: l => max v.depth (depthVs l)
def depthFs : List F → Nat
  | [] => 0
  | f :: l => max (depthF f) (depthFs l)
def depthF : F → Nat
  | .mk _ v => v.depth
end
mutual
def V.size : V → Nat
  | .mk k _ _ l d => 1 + ((bif k == 6 then sizeVs l else 0) + (bif k == 5 then sizeFs d else 0))
def sizeVs : List V → Nat
  | [] => 0
  | v :: l => v.size + sizeVs l
def sizeFs : List F → Nat
  | [] => 0
  | f :: l => sizeF f + sizeFs l
def sizeF : F → Nat
  | .mk _ v => v.size
end
theorem depthFs_map : ∀ d : List F, depthFs d = depthVs (d.map F.value)
  | [] => rfl
  | .mk n v :: d => by simp [depthFs, depthF, depthVs, depthFs_map d, F.value]
theorem sizeFs_map : ∀ d : List F, sizeFs d = sizeVs (d.map F.value)
  | [] => rfl
  | .mk n v :: d => by simp [sizeFs, sizeF, sizeVs, sizeFs_map d, F.value]
theorem depthVs_append : ∀ a b : List V, depthVs (a ++ b) = max (depthVs a) (depthVs b)
  | [], b => by simp [depthVs]
  | v :: a, b => by simp [depthVs, depthVs_append a b, Nat.max_assoc]
theorem sizeVs_append : ∀ a b : List V, sizeVs (a ++ b) = sizeVs a + sizeVs b
  | [], b => by simp [sizeVs]
  | v :: a, b => by simp [sizeVs, sizeVs_append a b, Nat.add_assoc]
theorem depth_eq (v : V) : v.depth = 1 + depthVs (partsV v) := by
  obtain ⟨k, i, t, l, d⟩ := v
  simp only [V.depth, partsV, V.kind, V.list, V.doc, depthVs_append, depthFs_map]
  cases k == 6 <;> cases k == 5 <;> simp [depthVs]
theorem size_eq (v : V) : v.size = 1 + sizeVs (partsV v) := by
  obtain ⟨k, i, t, l, d⟩ := v
  simp only [V.size, partsV, V.kind, V.list, V.doc, sizeVs_append, sizeFs_map]
  cases k == 6 <;> cases k == 5 <;> simp [sizeVs]
theorem depth_pos (v : V) : 1 ≤ v.depth := by rw [depth_eq]; omega
theorem size_pos (v : V) : 1 ≤ v.size := by rw [size_eq]; omega

theorem parts_pc {v : V} (hv : v.Sm) : PCT 147 [.agg (cV v)] (.sl false (partsV v).length (encVs (partsV v))) := pcIs (by kernel_rfl) (by simp) (c147 v hv)

/-- The levels, in the reference. -/
theorem reflevels_loop (v : V) (hv : v.Sm) (most : Nat) (hm : 2 ≤ most) (hm2 : most ≤ 100000) (ih : ∀ x : V, x.Sm → CallT 111 [.agg (cV x), .int .i64 ((most - 1 : Nat) : Int)] [] (.int .i64 ((min x.depth (most - 1) : Nat) : Int)) []) (h : Heap) (Q : AV → Prop) {k : Nat} (hk : k ≤ (partsV v).length) :
    ∀ best : Nat, best ≤ most - 1 → Q (.int .i64 ((max best (min (depthVs ((partsV v).drop k)) (most - 1)) + 1 : Nat) : Int)) →
      LP 111 6 [.int .i64 (most : Int), .sl false (partsV v).length (encVs (partsV v)), .int .i64 (best : Int), .int .i64 (k : Int)] h Q := by
  refine up_to (P := fun k => ∀ best : Nat, best ≤ most - 1 → Q (.int .i64 ((max best (min (depthVs ((partsV v).drop k)) (most - 1)) + 1 : Nat) : Int)) →
      LP 111 6 [.int .i64 (most : Int), .sl false (partsV v).length (encVs (partsV v)), .int .i64 (best : Int), .int .i64 (k : Int)] h Q) ?_ ?_ hk
  · intro best hb hq
    refine labelIs ?_
    rw [l111_6]
    have hlt : decide (((partsV v).length : Int) < ((partsV v).length : Int)) = false := by simp
    rw [hlt, cond_false, wrap_of (by omega)]
    rw [List.drop_length] at hq
    simpa [depthVs] using hq
  · intro k hk ih2 best hb hq
    have hl := partsV_len hv
    have hx := partsV_mem hv (List.getElem_mem hk)
    refine labelIs ?_
    rw [l111_6]
    rw [drop_get hk, depthVs] at hq
    have hlt : decide ((k : Int) < ((partsV v).length : Int)) = true := by simpa using hk
    have hw : IntKind.i64.wrap ((most : Int) - 1) = ((most - 1 : Nat) : Int) := by rw [wrap_of (by omega)]; omega
    rw [hlt, cond_true, Int.toNat_natCast, wrap_of (n := (k : Int) + 1) (by omega), hw]
    refine ⟨by omega, _, _, _, _, _, _, _, seg_V (List.getElem?_eq_getElem hk), _, pcIs (by kernel_rfl) (by simp) (ih _ hx), ?_⟩
    have hmx : (if ((min (partsV v)[k].depth (most - 1) : Nat) : Int) > (best : Int) then ((min (partsV v)[k].depth (most - 1) : Nat) : Int) else (best : Int)) = ((max best (min (partsV v)[k].depth (most - 1)) : Nat) : Int) := by
      split <;> omega
    rw [hmx]
    refine ih2 _ (by omega) ?_
    have e : max (max best (min (partsV v)[k].depth (most - 1))) (min (depthVs ((partsV v).drop (k + 1))) (most - 1)) = max best (min (max (partsV v)[k].depth (depthVs ((partsV v).drop (k + 1)))) (most - 1)) := by omega
    rw [e]
    exact hq

theorem c111 : ∀ (most : Nat), 1 ≤ most → most ≤ 100000 → ∀ v : V, v.Sm → CallT 111 [.agg (cV v), .int .i64 (most : Int)] [] (.int .i64 ((min v.depth most : Nat) : Int)) []
  | 0, h, _, _, _ => by omega
  | most + 1, _, h2, v, hv => by
    refine pureIs (M := ⟨false, 0⟩) (by kernel_rfl) (by simp) ?_
    rw [n111]
    refine ⟨_, _, parts_pc hv, ?_⟩
    have hp := depth_pos v
    by_cases hm : most + 1 < 2
    · have : decide (((most + 1 : Nat) : Int) < 2) = true := by simp; omega
      rw [this, cond_true, cond_true]
      show AV.int IntKind.i64 1 = _
      rw [show min v.depth (most + 1) = 1 by omega]
      rfl
    · have : decide (((most + 1 : Nat) : Int) < 2) = false := by simp; omega
      rw [this, cond_false]
      by_cases hl : (partsV v).length = 0
      · have e : (((partsV v).length : Int) == 0) = true := by simp [hl]
        rw [e, cond_true]
        show AV.int IntKind.i64 1 = _
        have hd : depthVs (partsV v) = 0 := by rw [List.eq_nil_of_length_eq_zero hl]; rfl
        rw [show min v.depth (most + 1) = 1 by rw [depth_eq, hd]; omega]
        rfl
      · have e : (((partsV v).length : Int) == 0) = false := by simpa using hl
        rw [e, cond_false]
        refine reflevels_loop v hv (most + 1) (by omega) h2 (fun x hx => c111 most (by omega) (by omega) x hx) [] _ (Nat.zero_le _) 0 (Nat.zero_le _) ?_
        rw [List.drop_zero, Nat.zero_max]
        have hd := depth_eq v
        rw [show min (depthVs (partsV v)) (most + 1 - 1) + 1 = min v.depth (most + 1) by omega]

/-- Depth (the reference) -/
theorem c69 (v : V) (hv : v.Sm) : CallT 69 [.agg (cV v)] [] (.int .i64 ((min v.depth 17 : Nat) : Int)) [] := by
  refine pureIs (M := ⟨false, 0⟩) (by kernel_rfl) (by simp) ?_
  rw [n69]
  exact ⟨_, pcIs (by kernel_rfl) (by simp) (c111 17 (by omega) (by omega) v hv), rfl⟩

/-- The number of values, in the reference. -/
theorem refcount_loop (v : V) (hv : v.Sm) (most : Nat) (hm2 : most ≤ 100000) (ih : ∀ m, 1 ≤ m → m < most → ∀ x : V, x.Sm → CallT 112 [.agg (cV x), .int .i64 (m : Int)] [] (.int .i64 ((min x.size m : Nat) : Int)) []) (h : Heap) (Q : AV → Prop) {k : Nat} (hk : k ≤ (partsV v).length) :
    ∀ n : Nat, 1 ≤ n → n ≤ most → Q (.int .i64 ((min (n + sizeVs ((partsV v).drop k)) most : Nat) : Int)) →
      LP 112 4 [.int .i64 (most : Int), .int .i64 (n : Int), .sl false (partsV v).length (encVs (partsV v)), .int .i64 (k : Int)] h Q := by
  refine up_to (P := fun k => ∀ n : Nat, 1 ≤ n → n ≤ most → Q (.int .i64 ((min (n + sizeVs ((partsV v).drop k)) most : Nat) : Int)) →
      LP 112 4 [.int .i64 (most : Int), .int .i64 (n : Int), .sl false (partsV v).length (encVs (partsV v)), .int .i64 (k : Int)] h Q) ?_ ?_ hk
  · intro n h1 hn hq
    refine labelIs ?_
    rw [l112_4]
    have hlt : decide (((partsV v).length : Int) < ((partsV v).length : Int)) = false := by simp
    rw [hlt, cond_false, cond_false]
    rw [List.drop_length, sizeVs] at hq
    rw [show min (n + 0) most = n by omega] at hq
    exact hq
  · intro k hk ih2 n h1 hn hq
    have hl := partsV_len hv
    have hx := partsV_mem hv (List.getElem_mem hk)
    refine labelIs ?_
    rw [l112_4]
    rw [drop_get hk, sizeVs] at hq
    have hlt : decide ((k : Int) < ((partsV v).length : Int)) = true := by simpa using hk
    rw [hlt, cond_true]
    by_cases hnm : n < most
    · have e : decide ((n : Int) < (most : Int)) = true := by simpa using hnm
      have hw : IntKind.i64.wrap ((most : Int) - (n : Int)) = ((most - n : Nat) : Int) := by rw [wrap_of (by omega)]; omega
      rw [e, cond_true, Int.toNat_natCast, wrap_of (n := (k : Int) + 1) (by omega), hw]
      refine ⟨by omega, _, _, _, _, _, _, _, seg_V (List.getElem?_eq_getElem hk), _, pcIs (by kernel_rfl) (by simp) (ih (most - n) (by omega) (by omega) _ hx), ?_⟩
      have hw2 : IntKind.i64.wrap ((n : Int) + ((min (partsV v)[k].size (most - n) : Nat) : Int)) = ((n + min (partsV v)[k].size (most - n) : Nat) : Int) := by rw [wrap_of (by omega)]; omega
      rw [hw2]
      refine ih2 _ (by omega) (by omega) ?_
      have e : min (n + min (partsV v)[k].size (most - n) + sizeVs ((partsV v).drop (k + 1))) most = min (n + ((partsV v)[k].size + sizeVs ((partsV v).drop (k + 1)))) most := by omega
      rw [e]
      exact hq
    · have e : decide ((n : Int) < (most : Int)) = false := by simp; omega
      rw [e, cond_false]
      rw [show min (n + ((partsV v)[k].size + sizeVs ((partsV v).drop (k + 1)))) most = n by omega] at hq
      exact hq

theorem c112 (v : V) (hv : v.Sm) (most : Nat) (h1 : 1 ≤ most) (h2 : most ≤ 100000) : CallT 112 [.agg (cV v), .int .i64 (most : Int)] [] (.int .i64 ((min v.size most : Nat) : Int)) [] := by
  induction most using Nat.strongRecOn generalizing v with
  | ind most ih =>
    refine pureIs (M := ⟨false, 0⟩) (by kernel_rfl) (by simp) ?_
    rw [n112]
    refine ⟨_, _, parts_pc hv, ?_⟩
    refine refcount_loop v hv most h2 (fun m hm1 hm2 x hx => ih m hm2 x hx hm1 (by omega)) [] _ (Nat.zero_le _) 1 (by omega) h1 ?_
    rw [List.drop_zero, ← size_eq]

/-- Nodes (the reference) -/
theorem c70 (v : V) (hv : v.Sm) : CallT 70 [.agg (cV v)] [] (.int .i64 ((min v.size 1025 : Nat) : Int)) [] := by
  refine pureIs (M := ⟨false, 0⟩) (by kernel_rfl) (by simp) ?_
  rw [n70]
  exact ⟨_, pcIs (by kernel_rfl) (by simp) (c112 v hv 1025 (by omega) (by omega)), rfl⟩
end Go.Proofs.YtdnhhdplcminlaaGreatDoor.AI

/- Well-formed values, in the reference. -/
set_option maxHeartbeats 1000000
set_option maxRecDepth 100000
set_option linter.unusedVariables false
set_option linter.unusedSimpArgs false
set_option linter.unusedSectionVars false
namespace Go.Proofs.YtdnhhdplcminlaaGreatDoor.AI
open Go

def wideC (b : UInt8) : Bool := !(bif decide ((b.toNat : Int) < 32) then true else decide ((b.toNat : Int) > 126))
def wideB (s : Str) : Bool := decide (1 ≤ s.length) && decide (s.length ≤ 128) && s.all wideC
theorem wide_loop (s : Str) (hs : s.length ≤ 536870912) (h : Heap) (Q : AV → Prop) {k : Nat} (hk : k ≤ s.length) : Q (.bool ((s.drop k).all wideC)) → LP 149 4 [.str s, .int .i64 (k : Int)] h Q := by
  refine up_to (P := fun k => Q (.bool ((s.drop k).all wideC)) → LP 149 4 [.str s, .int .i64 (k : Int)] h Q) ?_ ?_ hk
  · intro hq
    refine labelIs ?_
    rw [l149_4]
    simpa using hq
  · intro k hk ih hq
    refine labelIs ?_
    rw [l149_4]
    rw [drop_get hk, List.all_cons] at hq
    have hg : s.getD k 0 = s[k] := by simp [hk]
    have hlt : decide ((k : Int) < (s.length : Int)) = true := by simpa using hk
    rw [hlt, cond_true, Int.toNat_natCast, hg, wrap_of (by omega)]
    refine ⟨by omega, fun _ => by omega, ?_⟩
    cases hc : wideC s[k] with
    | true =>
      rw [hc, Bool.true_and] at hq
      simp only [wideC, Bool.not_eq_true'] at hc
      rw [hc, cond_false]
      exact ih hq
    | false =>
      rw [hc, Bool.false_and] at hq
      simp only [wideC, Bool.not_eq_false'] at hc
      rw [hc, cond_true]
      exact hq
/-- wide (the reference) -/
theorem c149 (s : Str) (hs : s.length ≤ 536870912) : CallT 149 [.str s] [] (.bool (wideB s)) [] := by
  refine pureIs (M := ⟨false, 0⟩) (by kernel_rfl) (by simp) ?_
  rw [n149]
  by_cases h1 : 1 ≤ s.length
  · have h1' : decide ((s.length : Int) < 1) = false := by simp; omega
    rw [h1', cond_false]
    by_cases h2 : s.length ≤ 128
    · have h2' : decide ((s.length : Int) > 128) = false := by simp; omega
      rw [h2', cond_false]
      refine wide_loop s hs _ _ (Nat.zero_le _) ?_
      simp only [wideB, h1, h2, decide_true, Bool.true_and, List.drop_zero]
    · have h2' : decide ((s.length : Int) > 128) = true := by simp; omega
      simp [h2', wideB, h2]
  · have h1' : decide ((s.length : Int) < 1) = true := by simp; omega
    simp [h1', wideB, h1]

/-- Is a string UTF-8? -/
def cont (b : UInt8) : Bool := decide (128 ≤ b.toNat) && decide (b.toNat ≤ 191)
def lim (b c : UInt8) : Bool := !((b.toNat == 224 && decide (c.toNat < 160)) || (b.toNat == 237 && decide (c.toNat > 159)) || (b.toNat == 240 && decide (c.toNat < 144)) || (b.toNat == 244 && decide (c.toNat > 143)))
def utf8B : Str → Bool
  | [] => true
  | b :: r =>
    bif decide (b.toNat < 128) then utf8B r else match r with
      | [] => false
      | c :: r => bif decide (194 ≤ b.toNat) && decide (b.toNat ≤ 223) then cont c && utf8B r else match r with
        | [] => false
        | d :: r => bif decide (224 ≤ b.toNat) && decide (b.toNat ≤ 239) then cont c && cont d && lim b c && utf8B r else match r with
          | [] => false
          | e :: r => decide (240 ≤ b.toNat) && decide (b.toNat ≤ 244) && cont c && cont d && cont e && lim b c && utf8B r

/-- What is asked of a value's own fields. -/
def headB (k i : Int) (t : Str) (ln dn : Nat) : Bool :=
  (k == 6 || ln == 0) && ((k == 5 || dn == 0) &&
  (bif k == 9 then t == [] && (i == 0 || i == 1)
  else bif k == 10 then t == [] && decide (0 ≤ i)
  else bif k == 4 then i == 0 && (decide (t.length ≤ 4096) && utf8B t)
  else bif k == 7 then i == 0 && decide (t.length ≤ 4096)
  else bif k == 8 then i == 0 && t.length == 12
  else bif k == 3 then t == []
  else decide (1 ≤ k) && decide (k ≤ 11) && (i == 0 && t == [])))

mutual
/-- Is a value well-formed, with names of a kind, apart from its size? -/
def V.formed (nm : Str → Bool) : V → Bool
  | .mk k i t l d => headB k i t l.length d.length && (formedVs nm l && (apartB nm [] (namesFs d) && formedFs nm d))
def formedVs (nm : Str → Bool) : List V → Bool
  | [] => true
  | v :: l => V.formed nm v && formedVs nm l
def formedFs (nm : Str → Bool) : List F → Bool
  | [] => true
  | f :: l => formedF nm f && formedFs nm l
def formedF (nm : Str → Bool) : F → Bool
  | .mk _ v => V.formed nm v
def namesFs : List F → List Str
  | [] => []
  | f :: l => nameF f :: namesFs l
def nameF : F → Str
  | .mk n _ => n
end
theorem namesFs_map : ∀ d : List F, namesFs d = d.map F.name
  | [] => rfl
  | .mk n v :: d => by simp [namesFs, nameF, namesFs_map d, F.name]
theorem formedVs_all (nm : Str → Bool) : ∀ l : List V, formedVs nm l = l.all (V.formed nm)
  | [] => rfl
  | v :: l => by simp [formedVs, formedVs_all nm l]
theorem formedFs_all (nm : Str → Bool) : ∀ l : List F, formedFs nm l = l.all fun f => V.formed nm f.value
  | [] => rfl
  | .mk n v :: l => by simp [formedFs, formedF, formedFs_all nm l, F.value]
theorem formed_eq (nm : Str → Bool) (v : V) : v.formed nm = (headB v.kind v.int v.text v.list.length v.doc.length && (v.list.all (V.formed nm) && (apartB nm [] (v.doc.map F.name) && v.doc.all fun f => V.formed nm f.value))) := by
  obtain ⟨k, i, t, l, d⟩ := v
  simp only [V.formed, formedVs_all, formedFs_all, namesFs_map, V.kind, V.int, V.text, V.list, V.doc]

def nmB (b : Bool) (s : Str) : Bool := bif b then nameB s else wideB s

/-- Fields, one behind the other. -/
def goF (nm : Str → Bool) : List Str → List F → Bool
  | _, [] => true
  | seen, f :: r => bif bif !(nm f.name) then true else !(V.formed nm f.value) then false else bif seen.contains f.name then false else goF nm (seen ++ [f.name]) r
theorem goF_eq (nm : Str → Bool) : ∀ (d : List F) (seen : List Str), goF nm seen d = (apartB nm seen (d.map F.name) && d.all fun f => V.formed nm f.value)
  | [], seen => rfl
  | f :: r, seen => by
    rw [goF, List.map_cons, apartB, List.all_cons, goF_eq nm r]
    cases nm f.name <;> cases V.formed nm f.value <;> cases seen.contains f.name <;> simp

theorem fields_inner (v : V) (hv : v.Sm) (b : Bool) (h : Heap) (Q : AV → Prop) {i : Nat} (hi : i < v.doc.length) {k : Nat} (hk : k ≤ i) :
    ((((v.doc.take i).drop k).map F.name).contains v.doc[i].name = true → Q (.bool false)) → ((((v.doc.take i).drop k).map F.name).contains v.doc[i].name = false → LP 114 2 [.bool b, .box (cV v), .int .i64 ((i + 1 : Nat) : Int)] h Q) →
    LP 114 8 [.bool b, .box (cV v), .int .i64 (i : Int), .box (cF v.doc[i]), .int .i64 (k : Int)] h Q := by
  have hl := hv.doc
  refine up_to (P := fun k => ((((v.doc.take i).drop k).map F.name).contains v.doc[i].name = true → Q (.bool false)) → ((((v.doc.take i).drop k).map F.name).contains v.doc[i].name = false → LP 114 2 [.bool b, .box (cV v), .int .i64 ((i + 1 : Nat) : Int)] h Q) →
    LP 114 8 [.bool b, .box (cV v), .int .i64 (i : Int), .box (cF v.doc[i]), .int .i64 (k : Int)] h Q) ?_ ?_ hk
  · intro h1 h2
    refine labelIs ?_
    rw [l114_8]
    have hlt : decide ((i : Int) < (i : Int)) = false := by simp
    rw [hlt, cond_false, wrap_of (by omega)]
    exact h2 (by simp)
  · intro k hk ih h1 h2
    refine labelIs ?_
    rw [l114_8]
    have hlt : decide ((k : Int) < (i : Int)) = true := by simpa using hk
    have hkl : k < v.doc.length := by omega
    rw [hlt, cond_true, Int.toNat_natCast, wrap_of (by omega)]
    refine ⟨by omega, _, seg_Fn (List.getElem?_eq_getElem hkl), ?_⟩
    have hd : ((v.doc.take i).drop k).map F.name = v.doc[k].name :: ((v.doc.take i).drop (k + 1)).map F.name := by
      rw [drop_get (by simp; omega)]
      simp
    rw [hd, List.contains_cons] at h1 h2
    have hcomm : (v.doc[i].name == v.doc[k].name) = (v.doc[k].name == v.doc[i].name) := by
      rw [Bool.eq_iff_iff]; simp only [beq_iff_eq]; exact eq_comm
    rw [hcomm] at h1 h2
    cases hc : v.doc[k].name == v.doc[i].name with
    | true =>
      rw [hc] at h1
      exact h1 (by simp)
    | false =>
      rw [hc, Bool.false_or] at h1 h2
      exact ih h1 h2

theorem fields_loop (v : V) (hv : v.Sm) (b : Bool) (ih : ∀ f ∈ v.doc, CallT 71 [.agg (cV f.value), .bool b] [] (.bool (f.value.formed (nmB b))) []) (h : Heap) (Q : AV → Prop) {k : Nat} (hk : k ≤ v.doc.length) :
    Q (.bool (goF (nmB b) ((v.doc.take k).map F.name) (v.doc.drop k))) → LP 114 2 [.bool b, .box (cV v), .int .i64 (k : Int)] h Q := by
  have hl := hv.doc
  refine up_to (P := fun k => Q (.bool (goF (nmB b) ((v.doc.take k).map F.name) (v.doc.drop k))) → LP 114 2 [.bool b, .box (cV v), .int .i64 (k : Int)] h Q) ?_ ?_ hk
  · intro hq
    refine labelIs ?_
    rw [l114_2]
    simpa [goF] using hq
  · intro k hk ih2 hq
    have hf := hv.field (List.getElem_mem hk)
    refine labelIs ?_
    rw [l114_2]
    rw [drop_get hk, goF] at hq
    have hlt : decide ((k : Int) < (v.doc.length : Int)) = true := by simpa using hk
    rw [hlt, cond_true, Int.toNat_natCast]
    refine ⟨by omega, _, _, _, _, _, _, _, _, seg_F (List.getElem?_eq_getElem hk), nameB v.doc[k].name, fun _ => pcIs (by kernel_rfl) (by simp) (c87 _ hf.name), wideB v.doc[k].name, fun _ => pcIs (by kernel_rfl) (by simp) (c149 _ hf.name),
      v.doc[k].value.formed (nmB b), fun _ => pcIs (by kernel_rfl) (by simp) (ih _ (List.getElem_mem hk)), ?_⟩
    have hn : (bif bif b then !(nameB v.doc[k].name) else false then true else bif !b then !(wideB v.doc[k].name) else false) = !(nmB b v.doc[k].name) := by
      cases b <;> simp [nmB]
    rw [hn]
    cases hc : (bif !(nmB b v.doc[k].name) then true else !(v.doc[k].value.formed (nmB b))) with
    | true =>
      rw [hc] at hq
      exact hq
    | false =>
      rw [hc, cond_false] at hq
      rw [cond_false]
      refine fields_inner v hv b h Q hk (Nat.zero_le k) (fun hd => ?_) (fun hd => ?_)
      · rw [List.drop_zero] at hd
        rw [hd, cond_true] at hq
        exact hq
      · rw [List.drop_zero] at hd
        rw [hd, cond_false] at hq
        refine ih2 ?_
        rw [List.take_succ_eq_append_getElem hk, List.map_append]
        exact hq

/-- fields (the reference) -/
theorem c114 (v : V) (hv : v.Sm) (b : Bool) (ih : ∀ f ∈ v.doc, CallT 71 [.agg (cV f.value), .bool b] [] (.bool (f.value.formed (nmB b))) []) : CallT 114 [.agg (cV v), .bool b] [] (.bool (apartB (nmB b) [] (v.doc.map F.name) && v.doc.all fun f => V.formed (nmB b) f.value)) [] := by
  refine pureIs (M := ⟨false, 0⟩) (by kernel_rfl) (by simp) ?_
  rw [n114]
  refine fields_loop v hv b ih _ _ (Nat.zero_le _) ?_
  rw [← goF_eq]
  simp

theorem formed_loop (v : V) (hv : v.Sm) (b : Bool) (ih : ∀ x ∈ v.list, CallT 71 [.agg (cV x), .bool b] [] (.bool (x.formed (nmB b))) []) (ihd : ∀ f ∈ v.doc, CallT 71 [.agg (cV f.value), .bool b] [] (.bool (f.value.formed (nmB b))) []) (h : Heap) (Q : AV → Prop) {k : Nat} (hk : k ≤ v.list.length) :
    Q (.bool ((v.list.drop k).all (V.formed (nmB b)) && (apartB (nmB b) [] (v.doc.map F.name) && v.doc.all fun f => V.formed (nmB b) f.value))) → LP 71 19 [.bool b, .box (cV v), .int .i64 (k : Int)] h Q := by
  have hl := hv.list
  refine up_to (P := fun k => Q (.bool ((v.list.drop k).all (V.formed (nmB b)) && (apartB (nmB b) [] (v.doc.map F.name) && v.doc.all fun f => V.formed (nmB b) f.value))) → LP 71 19 [.bool b, .box (cV v), .int .i64 (k : Int)] h Q) ?_ ?_ hk
  · intro hq
    refine labelIs ?_
    rw [l71_19]
    have hlt : decide ((v.list.length : Int) < (v.list.length : Int)) = false := by simp
    rw [hlt, cond_false]
    rw [List.drop_length, List.all_nil, Bool.true_and] at hq
    exact ⟨_, pcIs (by kernel_rfl) (by simp) (c114 v hv b ihd), hq⟩
  · intro k hk ih2 hq
    refine labelIs ?_
    rw [l71_19]
    rw [drop_get hk, List.all_cons] at hq
    have hlt : decide ((k : Int) < (v.list.length : Int)) = true := by simpa using hk
    rw [hlt, cond_true, Int.toNat_natCast, wrap_of (by omega)]
    refine ⟨by omega, _, _, _, _, _, _, _, seg_V (List.getElem?_eq_getElem hk), _, pcIs (by kernel_rfl) (by simp) (ih _ (List.getElem_mem hk)), ?_⟩
    cases hc : V.formed (nmB b) v.list[k] with
    | true =>
      rw [hc, Bool.true_and] at hq
      exact ih2 hq
    | false =>
      rw [hc, Bool.false_and, Bool.false_and] at hq
      exact hq
end Go.Proofs.YtdnhhdplcminlaaGreatDoor.AI

/- Well-formed and valid values, in the reference; sameness. -/
set_option maxHeartbeats 1000000
set_option maxRecDepth 100000
set_option linter.unusedVariables false
set_option linter.unusedSimpArgs false
set_option linter.unusedSectionVars false
namespace Go.Proofs.YtdnhhdplcminlaaGreatDoor.AI
open Go

/-- What the functions for UTF-8 hand back; shown apart. -/
def Utf8Told : Prop := (∀ s : Str, s.length ≤ 536870912 → CallT 113 [.str s] [] (.bool (utf8B s)) [])

theorem gt0 (n : Nat) : decide ((n : Int) > 0) = !(n == 0) := by
  cases n with
  | zero => rfl
  | succ n => simp
theorem le_cast (n m : Nat) : decide ((n : Int) ≤ (m : Int)) = decide (n ≤ m) := by simp
theorem le4096 (n : Nat) : decide ((n : Int) ≤ 4096) = decide (n ≤ 4096) := le_cast n 4096
theorem eq12 (n : Nat) : ((n : Int) == 12) = (n == 12) := by
  rw [Bool.eq_iff_iff]; simp only [beq_iff_eq]; omega
theorem ge_le (i : Int) : decide (i ≥ 0) = decide (0 ≤ i) := rfl

theorem c71 (U : Utf8Told) (b : Bool) : ∀ v : V, v.Sm → CallT 71 [.agg (cV v), .bool b] [] (.bool (v.formed (nmB b))) [] := by
  refine V.ind' (fun v ihl ihd hv => ?_)
  replace ihl := fun x hx => ihl x hx (hv.elem hx)
  replace ihd := fun f hf => ihd f hf (hv.field hf).value
  refine pureIs (M := ⟨false, 0⟩) (by kernel_rfl) (by simp) ?_
  rw [n71, formed_eq, gt0 v.list.length, gt0 v.doc.length, le4096, eq12]
  have hloop := fun Q hq => formed_loop v hv b ihl ihd [] Q (Nat.zero_le _) hq
  simp only [List.drop_zero] at hloop
  have ht := hv.text
  have hR : v.list.length = 0 → v.doc.length = 0 → (v.list.all (V.formed (nmB b)) && (apartB (nmB b) [] (v.doc.map F.name) && v.doc.all fun f => V.formed (nmB b) f.value)) = true := by
    intro h1 h2
    rw [List.eq_nil_of_length_eq_zero h1, List.eq_nil_of_length_eq_zero h2]
    rfl
  generalize (v.list.all (V.formed (nmB b)) && (apartB (nmB b) [] (v.doc.map F.name) && v.doc.all fun f => V.formed (nmB b) f.value)) = R at hR hloop ⊢
  have hu : ∃ b9 : Bool, ((decide (v.text.length ≤ 4096) && true) = true → PCT 113 [.str v.text] (.bool b9)) ∧ b9 = utf8B v.text := ⟨_, fun _ => pcIs (by kernel_rfl) (by simp) (U v.text ht), rfl⟩
  clear ihl ihd hv
  dsimp only [cV] at hloop
  generalize v.kind = k at *
  generalize v.int = i at *
  generalize v.text = t at *
  generalize v.list = l at *
  generalize v.doc = d at *
  have hR' : (l.length == 0) = true → (d.length == 0) = true → R = true := fun h1 h2 => hR (by simpa using h1) (by simpa using h2)
  clear hR
  rcases (by omega : k = 1 ∨ k = 2 ∨ k = 3 ∨ k = 4 ∨ k = 5 ∨ k = 6 ∨ k = 7 ∨ k = 8 ∨ k = 9 ∨ k = 10 ∨ k = 11 ∨ (k < 1 ∨ 11 < k)) with rfl | rfl | rfl | rfl | rfl | rfl | rfl | rfl | rfl | rfl | rfl | hk
  case inr.inr.inr.inl =>
    obtain ⟨b9, h9, rfl⟩ := hu
    simp only [headB, bne] at h9 ⊢
    generalize (l.length == 0) = bl at hR' ⊢
    generalize (d.length == 0) = bd at hR' ⊢
    generalize (i == 0) = bi
    cases bl <;> cases bd <;> cases bi
    all_goals simp only [cond_true, cond_false, Bool.not_true, Bool.not_false, Bool.and_true, Bool.true_and, Bool.and_false, Bool.false_and, Bool.or_true, Bool.true_or, Bool.or_false, Bool.false_or, Int.reduceBEq, Int.reduceLT, Int.reduceGT, Int.reduceLE, Int.reduceGE, decide_true, decide_false]
    all_goals try rfl
    refine ⟨_, by simpa using h9, ?_⟩
    have := hR' rfl rfl
    subst this
    cases decide (t.length ≤ 4096) <;> simp
  case inr.inr.inr.inr.inr.inr.inr.inr.inr.inr.inr =>
    have e1 : (k == (6 : Int)) = false := by simp; omega
    have e2 : (k == (5 : Int)) = false := by simp; omega
    have e3 : (k == (4 : Int)) = false := by simp; omega
    have e4 : (k == (7 : Int)) = false := by simp; omega
    have e5 : (k == (8 : Int)) = false := by simp; omega
    have e6 : (k == (3 : Int)) = false := by simp; omega
    have e7 : (k == (9 : Int)) = false := by simp; omega
    have e8 : (k == (10 : Int)) = false := by simp; omega
    have e9 : (decide (1 ≤ k) && decide (k ≤ 11)) = false := by
      rcases hk with hk | hk
      · have : decide (1 ≤ k) = false := by simp; omega
        rw [this]; rfl
      · have : decide (k ≤ 11) = false := by simp; omega
        rw [this]; simp
    have e10 : decide (k < 1) = true ∨ decide (k > 11) = true := by
      rcases hk with hk | hk
      · exact .inl (by simpa using hk)
      · exact .inr (by simpa using hk)
    simp only [headB, bne, e1, e2, e3, e4, e5, e6, e7, e8, e9, cond_false, Bool.false_and, Bool.and_false]
    generalize (l.length == 0) = bl
    generalize (d.length == 0) = bd
    rcases e10 with e | e <;> rw [e] <;> cases bl <;> cases bd <;> simp
  all_goals
    simp only [headB, bne] at hloop ⊢
    generalize (l.length == 0) = bl at hR' ⊢
    generalize (d.length == 0) = bd at hR' ⊢
    generalize (t == []) = bt
    generalize (i == 0) = bi
    generalize (i == 1) = bj
    generalize (t.length == 12) = b12
    have red : ∀ x : Bool, (bif x then true else x) = x := fun x => by cases x <;> rfl
    cases bl <;> cases bd <;> cases bt <;> cases bi
    all_goals simp only [cond_true, cond_false, Bool.not_true, Bool.not_false, Bool.and_true, Bool.true_and, Bool.and_false, Bool.false_and, Bool.or_true, Bool.true_or, Bool.or_false, Bool.false_or, Int.reduceBEq, Int.reduceLT, Int.reduceGT, Int.reduceLE, Int.reduceGE, decide_true, decide_false] at hloop ⊢
    all_goals first
      | rfl
      | (refine hloop _ ?_; simp; done)
      | (have := hR' rfl rfl; subst this; simp; done)
      | (refine hloop _ ?_; have := hR' rfl rfl; subst this; simp; done)
      | skip
end Go.Proofs.YtdnhhdplcminlaaGreatDoor.AI

/- Sameness of values; valid values in the reference. -/
set_option maxHeartbeats 1000000
set_option maxRecDepth 100000
set_option linter.unusedVariables false
set_option linter.unusedSimpArgs false
set_option linter.unusedSectionVars false
namespace Go.Proofs.YtdnhhdplcminlaaGreatDoor.AI
open Go

mutual
def sameV : V → V → Bool
  | .mk k i t l d, b => (k == b.kind && (i == b.int && (t == b.text && (l.length == b.list.length && d.length == b.doc.length)))) && (sameVs l b.list && sameFs d b.doc)
def sameVs : List V → List V → Bool
  | v :: l, u :: r => sameV v u && sameVs l r
  | _, _ => true
def sameFs : List F → List F → Bool
  | f :: l, g :: r => sameF f g && sameFs l r
  | _, _ => true
def sameF : F → F → Bool
  | .mk n v, g => n == g.name && sameV v g.value
end
theorem sameV_eq (a b : V) : sameV a b = ((a.kind == b.kind && (a.int == b.int && (a.text == b.text && (a.list.length == b.list.length && a.doc.length == b.doc.length)))) && (sameVs a.list b.list && sameFs a.doc b.doc)) := by
  cases a; simp only [sameV, V.kind, V.int, V.text, V.list, V.doc]
theorem sameF_eq (a b : F) : sameF a b = (a.name == b.name && sameV a.value b.value) := by cases a; simp only [sameF, F.name, F.value]
mutual
theorem sameV_refl : ∀ v : V, sameV v v = true
  | .mk k i t l d => by simp [sameV, V.kind, V.int, V.text, V.list, V.doc, sameVs_refl l, sameFs_refl d]
theorem sameVs_refl : ∀ l : List V, sameVs l l = true
  | [] => by simp [sameVs]
  | v :: l => by simp [sameVs, sameV_refl v, sameVs_refl l]
theorem sameFs_refl : ∀ l : List F, sameFs l l = true
  | [] => by simp [sameFs]
  | f :: l => by simp [sameFs, sameF_refl f, sameFs_refl l]
theorem sameF_refl : ∀ f : F, sameF f f = true
  | .mk n v => by simp [sameF, F.name, F.value, sameV_refl v]
end
def V.zero : V := .mk 0 0 [] [] []
def isZeroV (v : V) : Bool := v.kind == 0 && (v.int == 0 && (v.text == [] && (v.list.length == 0 && v.doc.length == 0)))
theorem same_zero (v : V) : sameV v V.zero = isZeroV v := by
  rw [sameV_eq]
  have h1 : sameVs v.list V.zero.list = true := by show sameVs v.list [] = true; cases v.list <;> simp [sameVs]
  have h2 : sameFs v.doc V.zero.doc = true := by show sameFs v.doc [] = true; cases v.doc <;> simp [sameFs]
  rw [h1, h2]
  simp [isZeroV, V.zero, V.kind, V.int, V.text, V.list, V.doc]

theorem same_docs (a b : V) (ha : a.Sm) (hb : b.Sm) (hl : a.doc.length = b.doc.length) (ih : ∀ f ∈ a.doc, ∀ y : V, y.Sm → CallT 22 [.agg (cV f.value), .agg (cV y)] [] (.bool (sameV f.value y)) []) (h : Heap) (Q : AV → Prop) {k : Nat} (hk : k ≤ a.doc.length) :
    Q (.bool (sameFs (a.doc.drop k) (b.doc.drop k))) → LP 22 9 [.box (cV a), .box (cV b), .int .i64 (k : Int)] h Q := by
  have hal := ha.doc
  refine up_to (P := fun k => Q (.bool (sameFs (a.doc.drop k) (b.doc.drop k))) → LP 22 9 [.box (cV a), .box (cV b), .int .i64 (k : Int)] h Q) ?_ ?_ hk
  · intro hq
    refine labelIs ?_
    rw [l22_9]
    have hlt : decide ((a.doc.length : Int) < (a.doc.length : Int)) = false := by simp
    rw [hlt, cond_false]
    rw [List.drop_length] at hq
    simpa [sameFs] using hq
  · intro k hk ih2 hq
    have hkb : k < b.doc.length := by omega
    refine labelIs ?_
    rw [l22_9]
    rw [drop_get hk, drop_get hkb, sameFs, sameF_eq] at hq
    have hlt : decide ((k : Int) < (a.doc.length : Int)) = true := by simpa using hk
    rw [hlt, cond_true, Int.toNat_natCast, wrap_of (by omega)]
    have e1 := List.getElem?_eq_getElem hk
    have e2 := List.getElem?_eq_getElem hkb
    refine ⟨by omega, _, seg_Fn e1, by omega, _, seg_Fn e2, fun _ => by omega, _, _, _, _, _, _, _, fun _ => seg_Fv e1, fun _ => by omega, _, _, _, _, _, _, _, fun _ => seg_Fv e2, _,
      fun _ => pcIs (by kernel_rfl) (by simp) (ih _ (List.getElem_mem hk) _ (hb.field (List.getElem_mem hkb)).value), ?_⟩
    cases h1 : a.doc[k].name == b.doc[k].name with
    | false =>
      rw [h1] at hq
      exact hq
    | true =>
      rw [h1] at hq
      cases h2 : sameV a.doc[k].value b.doc[k].value with
      | false =>
        rw [h2] at hq
        exact hq
      | true =>
        rw [h2] at hq
        exact ih2 hq

theorem same_lists (a b : V) (ha : a.Sm) (hb : b.Sm) (hl : a.list.length = b.list.length) (hd : a.doc.length = b.doc.length) (ih : ∀ x ∈ a.list, ∀ y : V, y.Sm → CallT 22 [.agg (cV x), .agg (cV y)] [] (.bool (sameV x y)) []) (ihd : ∀ f ∈ a.doc, ∀ y : V, y.Sm → CallT 22 [.agg (cV f.value), .agg (cV y)] [] (.bool (sameV f.value y)) []) (h : Heap) (Q : AV → Prop) {k : Nat} (hk : k ≤ a.list.length) :
    Q (.bool (sameVs (a.list.drop k) (b.list.drop k) && sameFs a.doc b.doc)) → LP 22 4 [.box (cV a), .box (cV b), .int .i64 (k : Int)] h Q := by
  have hal := ha.list
  refine up_to (P := fun k => Q (.bool (sameVs (a.list.drop k) (b.list.drop k) && sameFs a.doc b.doc)) → LP 22 4 [.box (cV a), .box (cV b), .int .i64 (k : Int)] h Q) ?_ ?_ hk
  · intro hq
    refine labelIs ?_
    rw [l22_4]
    have hlt : decide ((a.list.length : Int) < (a.list.length : Int)) = false := by simp
    rw [hlt, cond_false]
    rw [List.drop_length] at hq
    refine same_docs a b ha hb hd ihd h Q (Nat.zero_le _) ?_
    simpa [sameVs] using hq
  · intro k hk ih2 hq
    have hkb : k < b.list.length := by omega
    refine labelIs ?_
    rw [l22_4]
    rw [drop_get hk, drop_get hkb, sameVs] at hq
    have hlt : decide ((k : Int) < (a.list.length : Int)) = true := by simpa using hk
    rw [hlt, cond_true, Int.toNat_natCast, wrap_of (by omega)]
    refine ⟨by omega, _, _, _, _, _, _, _, seg_V (List.getElem?_eq_getElem hk), by omega, _, _, _, _, _, _, _, seg_V (List.getElem?_eq_getElem hkb), _,
      pcIs (by kernel_rfl) (by simp) (ih _ (List.getElem_mem hk) _ (hb.elem (List.getElem_mem hkb))), ?_⟩
    cases h1 : sameV a.list[k] b.list[k] with
    | false =>
      rw [h1] at hq
      exact hq
    | true =>
      rw [h1, Bool.true_and] at hq
      exact ih2 hq

/-- Same (the reference) -/
theorem c22 : ∀ a : V, a.Sm → ∀ b : V, b.Sm → CallT 22 [.agg (cV a), .agg (cV b)] [] (.bool (sameV a b)) [] := by
  refine V.ind' (fun a ihl ihd ha b hb => ?_)
  replace ihl := fun x hx => ihl x hx (ha.elem hx)
  replace ihd := fun f hf => ihd f hf (ha.field hf).value
  refine pureIs (M := ⟨false, 0⟩) (by kernel_rfl) (by simp) ?_
  rw [n22, sameV_eq]
  have c1 : ∀ n m : Nat, ((n : Int) != (m : Int)) = !(n == m) := by
    intro n m
    simp only [bne]
    congr 1
    rw [Bool.eq_iff_iff]; simp only [beq_iff_eq]; omega
  rw [c1, c1]
  simp only [bne]
  have hgo : a.list.length = b.list.length → a.doc.length = b.doc.length → ∀ Q : AV → Prop, Q (.bool (sameVs a.list b.list && sameFs a.doc b.doc)) → LP 22 4 [.box (cV a), .box (cV b), .int .i64 0] [] Q := by
    intro h1 h2 Q hq
    exact same_lists a b ha hb h1 h2 ihl ihd [] Q (Nat.zero_le _) hq
  cases e1 : a.kind == b.kind
  · rfl
  cases e2 : a.int == b.int
  · rfl
  cases e3 : a.text == b.text
  · rfl
  cases e4 : a.list.length == b.list.length
  · rfl
  cases e5 : a.doc.length == b.doc.length
  · rfl
  exact hgo (by simpa using e4) (by simpa using e5) _ rfl

/-- Is a value valid? -/
def validB (nm : Str → Bool) (v : V) : Bool := decide (v.depth ≤ 16) && (decide (v.size ≤ 1024) && v.formed nm)

theorem minle (a b c : Nat) (h : c < b) : decide (((min a b : Nat) : Int) ≤ (c : Int)) = decide (a ≤ c) := by
  rw [decide_eq_decide]; omega
/-- Valid and Formed (the reference) -/
theorem c89 (U : Utf8Told) (v : V) (hv : v.Sm) : CallT 89 [.agg (cV v)] [] (.bool (validB nameB v)) [] := by
  refine pureIs (M := ⟨false, 0⟩) (by kernel_rfl) (by simp) ?_
  rw [n89]
  refine ⟨_, pcIs (by kernel_rfl) (by simp) (c69 v hv), _, fun _ => pcIs (by kernel_rfl) (by simp) (c70 v hv), _, fun _ => pcIs (by kernel_rfl) (by simp) (c71 U true v hv), ?_⟩
  have h1 := minle v.depth 17 16 (by omega)
  have h2 := minle v.size 1025 1024 (by omega)
  rw [show ((16 : Nat) : Int) = 16 from rfl] at h1
  rw [show ((1024 : Nat) : Int) = 1024 from rfl] at h2
  rw [h1, h2]
  have h3 : nmB true = nameB := rfl
  rw [h3, validB]
  cases decide (v.depth ≤ 16) <;> cases decide (v.size ≤ 1024) <;> rfl
theorem c46 (U : Utf8Told) (v : V) (hv : v.Sm) : CallT 46 [.agg (cV v)] [] (.bool (validB wideB v)) [] := by
  refine pureIs (M := ⟨false, 0⟩) (by kernel_rfl) (by simp) ?_
  rw [n46]
  refine ⟨_, pcIs (by kernel_rfl) (by simp) (c69 v hv), _, fun _ => pcIs (by kernel_rfl) (by simp) (c70 v hv), _, fun _ => pcIs (by kernel_rfl) (by simp) (c71 U false v hv), ?_⟩
  have h1 := minle v.depth 17 16 (by omega)
  have h2 := minle v.size 1025 1024 (by omega)
  rw [show ((16 : Nat) : Int) = 16 from rfl] at h1
  rw [show ((1024 : Nat) : Int) = 1024 from rfl] at h2
  rw [h1, h2]
  have h3 : nmB false = wideB := rfl
  rw [h3, validB]
  cases decide (v.depth ≤ 16) <;> cases decide (v.size ≤ 1024) <;> rfl
end Go.Proofs.YtdnhhdplcminlaaGreatDoor.AI

/- Valid values, in the program. -/
set_option maxHeartbeats 1000000
set_option maxRecDepth 100000
set_option linter.unusedVariables false
set_option linter.unusedSimpArgs false
set_option linter.unusedSectionVars false
namespace Go.Proofs.YtdnhhdplcminlaaGreatDoor.AI
open Go

/-- What stands behind a loop's head, over a heap. -/
abbrev LH (M : Mode) (f r : Nat) (vals : List AV) (h : Heap) (Q : AV → Heap → Prop) : Prop := LabelP Tryz.prog cfg M f r vals h Q

/-- A heap that holds one whole number at a place. -/
def holds (h : Heap) (id : Nat) (n : Int) : Prop := h[id]? = some (some (.arr [.int .i64 n]))
theorem read_of {h : Heap} {id : Nat} {n : Int} (hh : holds h id n) : readP Env.empty h (.ptr id 0) 1 = some [.int .i64 n] := by
  unfold holds at hh
  simp [readP, hh, seg]
theorem store_of {h : Heap} {id : Nat} {n m : Int} (hh : holds h id n) : aStore Tryz.prog Env.empty h 3 (.ptr id 0) (.int .i64 m) = some (.heap (h.set id (some (.arr [.int .i64 m]))) .undef) := by
  unfold holds at hh
  have hs : szOf Tryz.prog 3 = some 1 := by kernel_rfl
  simp [aStore, hs, cellsOf, solid, hh, splice, denil]
theorem holds_set {h : Heap} {id : Nat} {n m : Int} (hh : holds h id n) : holds (h.set id (some (.arr [.int .i64 m]))) id m := by
  have hlt : id < h.length := (List.getElem?_eq_some_iff.1 hh).1
  simp [holds, hlt]
theorem holds_ne {h : Heap} {id j : Nat} {n : Int} {o : Option AObj} (hh : holds h id n) (hne : j ≠ id) : holds (h.set j o) id n := by
  unfold holds at hh ⊢
  rw [List.getElem?_set_ne hne]
  exact hh

/-- One more level. -/
theorem c165 (v : V) (hv : v.Sm) (most : Nat) (hm : 2 ≤ most) (hm2 : most ≤ 100000) (ih : CallT 138 [.agg (cV v), .int .i64 ((most - 1 : Nat) : Int)] [] (.int .i64 ((min v.depth (most - 1) : Nat) : Int)) []) (n : Nat) (hn : n ≤ most) :
    CallT 165 [.agg (cV v), .ptr 1 0, .ptr 0 0] [some (.arr [.int .i64 (most : Int)]), some (.arr [.int .i64 (n : Int)])] (.bool (decide (max n (1 + min v.depth (most - 1)) < most)))
      [some (.arr [.int .i64 (most : Int)]), some (.arr [.int .i64 ((max n (1 + min v.depth (most - 1)) : Nat) : Int)])] := by
  refine heapIs (M := ⟨true, 0⟩) (by kernel_rfl) ?_
  rw [n165]
  have h1 : holds [some (.arr [.int .i64 (most : Int)]), some (.arr [.int .i64 (n : Int)])] 1 (n : Int) := rfl
  have h0 : holds [some (.arr [.int .i64 (most : Int)]), some (.arr [.int .i64 (n : Int)])] 0 (most : Int) := rfl
  have hw : IntKind.i64.wrap ((most : Int) - 1) = ((most - 1 : Nat) : Int) := by rw [wrap_of (by omega)]; omega
  refine ⟨_, read_of h1, _, read_of h0, ((min v.depth (most - 1) : Nat) : Int), (by rw [hw]; exact pcIs (by kernel_rfl) (by simp) ih), _, store_of h1, _, read_of (holds_set h1), _, read_of (holds_ne h0 (by omega)), ?_⟩
  · rw [wrap_of (n := (1 : Int) + ((min v.depth (most - 1) : Nat) : Int)) (by omega)]
    have e : (if (1 : Int) + ((min v.depth (most - 1) : Nat) : Int) > (n : Int) then (1 : Int) + ((min v.depth (most - 1) : Nat) : Int) else (n : Int)) = ((max n (1 + min v.depth (most - 1)) : Nat) : Int) := by split <;> omega
    rw [e]
    refine ⟨?_, rfl⟩
    congr 1
    rw [decide_eq_decide]
    omega

def lvl (most n : Nat) (l : List V) : Nat := max n (1 + min (depthVs l) (most - 1))

theorem levels_list (v : V) (hv : v.Sm) (hk5 : v.kind = 6) (most : Nat) (hm : 2 ≤ most) (hm2 : most ≤ 100000) (ih : ∀ x : V, x.Sm → CallT 138 [.agg (cV x), .int .i64 ((most - 1 : Nat) : Int)] [] (.int .i64 ((min x.depth (most - 1) : Nat) : Int)) [])
    (Q : AV → Heap → Prop) {k : Nat} (hk : k ≤ v.list.length) : ∀ n : Nat, 1 ≤ n → n ≤ most →
      (∀ b, Q (.bool b) [some (.arr [.int .i64 (most : Int)]), some (.arr [.int .i64 ((lvl most n (v.list.drop k) : Nat) : Int)])]) →
      LH ⟨false, 0⟩ 142 3 [.fn (.func 165) [.ptr 1 0, .ptr 0 0], .box (cV v), .sl false v.list.length (encVs v.list), .int .i64 (v.list.length : Int), .int .i64 (k : Int)] [some (.arr [.int .i64 (most : Int)]), some (.arr [.int .i64 (n : Int)])] Q := by
  have hl := hv.list
  refine up_to (P := fun k => ∀ n : Nat, 1 ≤ n → n ≤ most →
      (∀ b, Q (.bool b) [some (.arr [.int .i64 (most : Int)]), some (.arr [.int .i64 ((lvl most n (v.list.drop k) : Nat) : Int)])]) →
      LH ⟨false, 0⟩ 142 3 [.fn (.func 165) [.ptr 1 0, .ptr 0 0], .box (cV v), .sl false v.list.length (encVs v.list), .int .i64 (v.list.length : Int), .int .i64 (k : Int)] [some (.arr [.int .i64 (most : Int)]), some (.arr [.int .i64 (n : Int)])] Q) ?_ ?_ hk
  · intro n h1 hn hq
    refine labelIs ?_
    rw [l142_3_165]
    have hlt : decide ((v.list.length : Int) < (v.list.length : Int)) = false := by simp
    have e5 : (v.kind == (5 : Int)) = false := by rw [hk5]; rfl
    rw [hlt, cond_false, e5, cond_false]
    have := hq true
    rw [List.drop_length] at this
    rwa [show lvl most n [] = n by simp [lvl, depthVs]; omega] at this
  · intro k hk ih2 n h1 hn hq
    have hx := hv.elem (List.getElem_mem hk)
    refine labelIs ?_
    rw [l142_3_165]
    have hlt : decide ((k : Int) < (v.list.length : Int)) = true := by simpa using hk
    rw [hlt, cond_true, Int.toNat_natCast, wrap_of (by omega)]
    refine ⟨by omega, _, _, _, _, _, _, _, seg_V (List.getElem?_eq_getElem hk), _, _, c165 _ hx most hm hm2 (ih _ hx) n hn, ?_⟩
    have hp := depth_pos v.list[k]
    have hlv : lvl most (max n (1 + min v.list[k].depth (most - 1))) (v.list.drop (k + 1)) = lvl most n (v.list.drop k) := by
      rw [drop_get hk]
      simp only [lvl, depthVs]
      omega
    cases hd : decide (max n (1 + min v.list[k].depth (most - 1)) < most) with
    | true =>
      rw [Bool.not_true, cond_false]
      refine ih2 _ (by omega) (by omega) (fun b => ?_)
      rw [hlv]
      exact hq b
    | false =>
      rw [Bool.not_false, cond_true]
      have hd' : ¬ (max n (1 + min v.list[k].depth (most - 1)) < most) := by simpa using hd
      have : lvl most n (v.list.drop k) = max n (1 + min v.list[k].depth (most - 1)) := by
        rw [← hlv]
        simp only [lvl]
        omega
      have hq := hq false
      rwa [this] at hq

theorem levels_doc (v : V) (hv : v.Sm) (most : Nat) (hm : 2 ≤ most) (hm2 : most ≤ 100000) (ih : ∀ x : V, x.Sm → CallT 138 [.agg (cV x), .int .i64 ((most - 1 : Nat) : Int)] [] (.int .i64 ((min x.depth (most - 1) : Nat) : Int)) [])
    (Q : AV → Heap → Prop) {k : Nat} (hk : k ≤ v.doc.length) : ∀ n : Nat, 1 ≤ n → n ≤ most →
      (∀ b, Q (.bool b) [some (.arr [.int .i64 (most : Int)]), some (.arr [.int .i64 ((lvl most n ((v.doc.drop k).map F.value) : Nat) : Int)])]) →
      LH ⟨false, 0⟩ 142 10 [.fn (.func 165) [.ptr 1 0, .ptr 0 0], .sl false v.doc.length (encFs v.doc), .int .i64 (v.doc.length : Int), .int .i64 (k : Int)] [some (.arr [.int .i64 (most : Int)]), some (.arr [.int .i64 (n : Int)])] Q := by
  have hl := hv.doc
  refine up_to (P := fun k => ∀ n : Nat, 1 ≤ n → n ≤ most →
      (∀ b, Q (.bool b) [some (.arr [.int .i64 (most : Int)]), some (.arr [.int .i64 ((lvl most n ((v.doc.drop k).map F.value) : Nat) : Int)])]) →
      LH ⟨false, 0⟩ 142 10 [.fn (.func 165) [.ptr 1 0, .ptr 0 0], .sl false v.doc.length (encFs v.doc), .int .i64 (v.doc.length : Int), .int .i64 (k : Int)] [some (.arr [.int .i64 (most : Int)]), some (.arr [.int .i64 (n : Int)])] Q) ?_ ?_ hk
  · intro n h1 hn hq
    refine labelIs ?_
    rw [l142_10_165]
    have hlt : decide ((v.doc.length : Int) < (v.doc.length : Int)) = false := by simp
    rw [hlt, cond_false]
    have := hq true
    rw [List.drop_length] at this
    rwa [show lvl most n (List.map F.value []) = n by simp [lvl, depthVs]; omega] at this
  · intro k hk ih2 n h1 hn hq
    have hx := (hv.field (List.getElem_mem hk)).value
    refine labelIs ?_
    rw [l142_10_165]
    have hlt : decide ((k : Int) < (v.doc.length : Int)) = true := by simpa using hk
    rw [hlt, cond_true, Int.toNat_natCast, wrap_of (by omega)]
    refine ⟨by omega, _, _, _, _, _, _, _, _, seg_F (List.getElem?_eq_getElem hk), _, _, c165 _ hx most hm hm2 (ih _ hx) n hn, ?_⟩
    have hp := depth_pos v.doc[k].value
    have hlv : lvl most (max n (1 + min v.doc[k].value.depth (most - 1))) ((v.doc.drop (k + 1)).map F.value) = lvl most n ((v.doc.drop k).map F.value) := by
      rw [drop_get hk, List.map_cons]
      simp only [lvl, depthVs]
      omega
    cases hd : decide (max n (1 + min v.doc[k].value.depth (most - 1)) < most) with
    | true =>
      rw [Bool.not_true, cond_false]
      refine ih2 _ (by omega) (by omega) (fun b => ?_)
      rw [hlv]
      exact hq b
    | false =>
      rw [Bool.not_false, cond_true]
      have hd' : ¬ (max n (1 + min v.doc[k].value.depth (most - 1)) < most) := by simpa using hd
      have : lvl most n ((v.doc.drop k).map F.value) = max n (1 + min v.doc[k].value.depth (most - 1)) := by
        rw [← hlv]
        simp only [lvl]
        omega
      have hq := hq false
      rwa [this] at hq

/-- parts, for levels: what it leaves in the heap. -/
theorem parts_levels (v : V) (hv : v.Sm) (most : Nat) (hm : 2 ≤ most) (hm2 : most ≤ 100000) (ih : ∀ x : V, x.Sm → CallT 138 [.agg (cV x), .int .i64 ((most - 1 : Nat) : Int)] [] (.int .i64 ((min x.depth (most - 1) : Nat) : Int)) []) :
    ∃ b : Bool, CallT 142 [.agg (cV v), .fn (.func 165) [.ptr 1 0, .ptr 0 0]] [some (.arr [.int .i64 (most : Int)]), some (.arr [.int .i64 1])] (.bool b) [some (.arr [.int .i64 (most : Int)]), some (.arr [.int .i64 ((min v.depth most : Nat) : Int)])] := by
  obtain ⟨w, h', h1, b, rfl, rfl⟩ := call_body (P := Tryz.prog) (G := cfg) (M := ⟨false, 0⟩) (f := 142) (args := [.agg (cV v), .fn (.func 165) [.ptr 1 0, .ptr 0 0]]) (h := [some (.arr [.int .i64 (most : Int)]), some (.arr [.int .i64 1])])
    (Q := fun w h' => ∃ b : Bool, w = .bool b ∧ h' = [some (.arr [.int .i64 (most : Int)]), some (.arr [.int .i64 ((min v.depth most : Nat) : Int)])]) (by kernel_rfl) (by kernel_rfl) (by kernel_rfl) (by
      rw [n142_165]
      have hd := depth_eq v
      by_cases h6 : v.kind = 6
      · have e6 : (v.kind == (6 : Int)) = true := by simpa using h6
        rw [e6, cond_true]
        refine levels_list v hv h6 most hm hm2 ih _ (Nat.zero_le _) 1 (by omega) (by omega) (fun b => ⟨b, rfl, ?_⟩)
        have hp : partsV v = v.list := by simp [partsV, h6]
        rw [List.drop_zero, lvl, show max 1 (1 + min (depthVs v.list) (most - 1)) = min v.depth most by rw [hd, hp]; omega]
      · have e6 : (v.kind == (6 : Int)) = false := by simpa using h6
        rw [e6, cond_false]
        by_cases h5 : v.kind = 5
        · have e5 : (v.kind == (5 : Int)) = true := by simpa using h5
          rw [e5, cond_true]
          refine levels_doc v hv most hm hm2 ih _ (Nat.zero_le _) 1 (by omega) (by omega) (fun b => ⟨b, rfl, ?_⟩)
          have hp : partsV v = v.doc.map F.value := by simp [partsV, h5]
          rw [List.drop_zero, lvl, show max 1 (1 + min (depthVs (v.doc.map F.value)) (most - 1)) = min v.depth most by rw [hd, hp]; omega]
        · have e5 : (v.kind == (5 : Int)) = false := by simpa using h5
          rw [e5, cond_false]
          refine ⟨true, rfl, ?_⟩
          have hp : partsV v = [] := by simp [partsV, e5, e6]
          rw [show min v.depth most = 1 by rw [hd, hp]; simp [depthVs]; omega]
          rfl)
  exact ⟨b, h1⟩

/-- levels -/
theorem c138 : ∀ (most : Nat), 1 ≤ most → most ≤ 100000 → ∀ v : V, v.Sm → CallT 138 [.agg (cV v), .int .i64 (most : Int)] [] (.int .i64 ((min v.depth most : Nat) : Int)) []
  | 0, h, _, _, _ => by omega
  | most + 1, _, h2, v, hv => by
    refine pureIs (M := ⟨true, 0⟩) (by kernel_rfl) (by simp) ?_
    rw [n138]
    refine ⟨_, rfl, ?_⟩
    have hp := depth_pos v
    by_cases hm : most + 1 ≤ 1
    · have : decide (((most + 1 : Nat) : Int) ≤ 1) = true := by simp; omega
      rw [this, cond_true]
      refine ⟨_, rfl, ?_⟩
      rw [show min v.depth (most + 1) = most + 1 by omega]
    · have : decide (((most + 1 : Nat) : Int) ≤ 1) = false := by simp; omega
      rw [this, cond_false]
      obtain ⟨b, hb⟩ := parts_levels v hv (most + 1) (by omega) h2 (fun x hx => c138 most (by omega) (by omega) x hx)
      exact ⟨_, rfl, b, _, hb, _, read_of (n := ((min v.depth (most + 1) : Nat) : Int)) rfl, rfl⟩
/-- Depth -/
theorem c104 (v : V) (hv : v.Sm) : CallT 104 [.agg (cV v)] [] (.int .i64 ((min v.depth 17 : Nat) : Int)) [] := by
  refine pureIs (M := ⟨false, 0⟩) (by kernel_rfl) (by simp) ?_
  rw [n104]
  exact ⟨_, pcIs (by kernel_rfl) (by simp) (c138 17 (by omega) (by omega) v hv), rfl⟩
end Go.Proofs.YtdnhhdplcminlaaGreatDoor.AI

/- The number of values, in the program. -/
set_option maxHeartbeats 1000000
set_option maxRecDepth 100000
set_option linter.unusedVariables false
set_option linter.unusedSimpArgs false
set_option linter.unusedSectionVars false
namespace Go.Proofs.YtdnhhdplcminlaaGreatDoor.AI
open Go

def cntI (s : Nat) (most : Int) : Int := if most ≤ 0 then most else min (s : Int) most
def cntL (most : Int) : Int → List V → Int
  | n, [] => n
  | n, v :: l => if n + cntI v.size (most - n) < most then cntL most (n + cntI v.size (most - n)) l else n + cntI v.size (most - n)

theorem cntL_pos (most : Int) (hm : 1 ≤ most) : ∀ (l : List V) (n : Int), 1 ≤ n → n ≤ most → min (cntL most n l) most = min (n + (sizeVs l : Int)) most
  | [], n, h1, h2 => by simp [cntL, sizeVs]
  | v :: l, n, h1, h2 => by
    have hs := size_pos v
    rw [cntL, sizeVs]
    unfold cntI
    by_cases h3 : most - n ≤ 0
    · rw [if_pos h3]
      rw [if_neg (by omega)]
      omega
    · rw [if_neg h3]
      by_cases h4 : n + min (v.size : Int) (most - n) < most
      · rw [if_pos h4, cntL_pos most hm l _ (by omega) (by omega)]
        omega
      · rw [if_neg h4]
        omega
theorem cntL_neg (most : Int) (hm : most ≤ 0) (l : List V) : min (cntL most 1 l) most = most := by
  cases l with
  | nil => simp only [cntL]; omega
  | cons v l =>
    have hc : cntI v.size (most - 1) = most - 1 := by
      unfold cntI
      rw [if_pos (by omega)]
    rw [cntL, hc, if_neg (by omega)]
    omega
theorem cntL_size (v : V) (most : Int) : min (cntL most 1 (partsV v)) most = cntI v.size most := by
  unfold cntI
  by_cases hm : most ≤ 0
  · rw [if_pos hm, cntL_neg most hm]
  · rw [if_neg hm, cntL_pos most (by omega) _ _ (by omega) (by omega), size_eq]
    simp

abbrev H3 (most d n : Int) : Heap := [some (.arr [.int .i64 most]), some (.arr [.int .i64 d]), some (.arr [.int .i64 n])]

/-- What is known of count at a depth. -/
def CntAt (d : Nat) : Prop := ∀ most : Int, most ≤ d → (d : Int) ≤ most + 1000000 → ∀ v : V, v.Sm → CallT 139 [.agg (cV v), .int .i64 most, .int .i64 (d : Int)] [] (.int .i64 (cntI v.size most)) []

theorem c166 (d : Nat) (ih : CntAt d) (hd : d ≤ 100000) (most n : Int) (h1 : 1 ≤ n) (hn : n ≤ 100000) (h2 : most ≤ d + 1) (h3 : (d : Int) + 1 ≤ most + 1000000) (h4 : most - n ≥ -900000 ∨ n = 1) (v : V) (hv : v.Sm) :
    CallT 166 [.agg (cV v), .ptr 2 0, .ptr 0 0, .ptr 1 0] (H3 most (d + 1) n) (.bool (decide (n + cntI v.size (most - n) < most))) (H3 most (d + 1) (n + cntI v.size (most - n))) := by
  refine heapIs (M := ⟨true, 0⟩) (by kernel_rfl) ?_
  rw [n166]
  have e2 : holds (H3 most (d + 1) n) 2 n := rfl
  have e0 : holds (H3 most (d + 1) n) 0 most := rfl
  have e1 : holds (H3 most (d + 1) n) 1 (d + 1) := rfl
  have hc : -2000000 ≤ cntI v.size (most - n) ∧ cntI v.size (most - n) ≤ 200000 := by
    unfold cntI
    split <;> omega
  refine ⟨_, read_of e2, _, read_of e0, _, read_of e2, _, read_of e1, cntI v.size (most - n), ?_, _, store_of e2, _, read_of (holds_set e2), _, read_of (holds_ne e0 (by omega)), ?_⟩
  · rw [wrap_of (by omega), wrap_of (n := (d : Int) + 1 - 1) (by omega), show (d : Int) + 1 - 1 = d by omega]
    refine pcIs (by kernel_rfl) (by simp) (ih (most - n) (by omega) ?_ v hv)
    rcases h4 with h4 | h4 <;> omega
  · rw [wrap_of (by omega)]
    exact ⟨rfl, rfl⟩

theorem count_list (v : V) (hv : v.Sm) (hk6 : v.kind = 6) (d : Nat) (ih : CntAt d) (hd : d ≤ 100000) (most : Int) (h2 : most ≤ d + 1) (h3 : (d : Int) + 1 ≤ most + 1000000) (Q : AV → Heap → Prop) {k : Nat} (hk : k ≤ v.list.length) : ∀ n : Int, 1 ≤ n → n ≤ 100000 → (n ≤ most ∨ n = 1) →
      (∀ b, Q (.bool b) (H3 most (d + 1) (cntL most n (v.list.drop k)))) →
      LH ⟨false, 0⟩ 142 3 [.fn (.func 166) [.ptr 2 0, .ptr 0 0, .ptr 1 0], .box (cV v), .sl false v.list.length (encVs v.list), .int .i64 (v.list.length : Int), .int .i64 (k : Int)] (H3 most (d + 1) n) Q := by
  have hl := hv.list
  refine up_to (P := fun k => ∀ n : Int, 1 ≤ n → n ≤ 100000 → (n ≤ most ∨ n = 1) →
      (∀ b, Q (.bool b) (H3 most (d + 1) (cntL most n (v.list.drop k)))) →
      LH ⟨false, 0⟩ 142 3 [.fn (.func 166) [.ptr 2 0, .ptr 0 0, .ptr 1 0], .box (cV v), .sl false v.list.length (encVs v.list), .int .i64 (v.list.length : Int), .int .i64 (k : Int)] (H3 most (d + 1) n) Q) ?_ ?_ hk
  · intro n h1 hn h4 hq
    refine labelIs ?_
    rw [l142_3_166]
    have hlt : decide ((v.list.length : Int) < (v.list.length : Int)) = false := by simp
    have e5 : (v.kind == (5 : Int)) = false := by rw [hk6]; rfl
    rw [hlt, cond_false, e5, cond_false]
    have := hq true
    rw [List.drop_length] at this
    exact this
  · intro k hk ih2 n h1 hn h4 hq
    have hx := hv.elem (List.getElem_mem hk)
    refine labelIs ?_
    rw [l142_3_166]
    have hlt : decide ((k : Int) < (v.list.length : Int)) = true := by simpa using hk
    rw [hlt, cond_true, Int.toNat_natCast, wrap_of (by omega)]
    refine ⟨by omega, _, _, _, _, _, _, _, seg_V (List.getElem?_eq_getElem hk), _, _, c166 d ih hd most n h1 hn h2 h3 (by rcases h4 with h4 | h4 <;> first | (left; omega) | (right; exact h4)) _ hx, ?_⟩
    rw [drop_get hk, cntL] at hq
    have hs := size_pos v.list[k]
    by_cases hc : n + cntI v.list[k].size (most - n) < most
    · rw [decide_eq_true hc, Bool.not_true, cond_false]
      rw [if_pos hc] at hq
      have hp : 1 ≤ n + cntI v.list[k].size (most - n) := by
        unfold cntI at hc ⊢
        split at hc <;> split <;> omega
      exact ih2 _ hp (by omega) (.inl (by omega)) hq
    · rw [decide_eq_false hc, Bool.not_false, cond_true]
      rw [if_neg hc] at hq
      exact hq false

theorem count_doc (v : V) (hv : v.Sm) (d : Nat) (ih : CntAt d) (hd : d ≤ 100000) (most : Int) (h2 : most ≤ d + 1) (h3 : (d : Int) + 1 ≤ most + 1000000) (Q : AV → Heap → Prop) {k : Nat} (hk : k ≤ v.doc.length) : ∀ n : Int, 1 ≤ n → n ≤ 100000 → (n ≤ most ∨ n = 1) →
      (∀ b, Q (.bool b) (H3 most (d + 1) (cntL most n ((v.doc.drop k).map F.value)))) →
      LH ⟨false, 0⟩ 142 10 [.fn (.func 166) [.ptr 2 0, .ptr 0 0, .ptr 1 0], .sl false v.doc.length (encFs v.doc), .int .i64 (v.doc.length : Int), .int .i64 (k : Int)] (H3 most (d + 1) n) Q := by
  have hl := hv.doc
  refine up_to (P := fun k => ∀ n : Int, 1 ≤ n → n ≤ 100000 → (n ≤ most ∨ n = 1) →
      (∀ b, Q (.bool b) (H3 most (d + 1) (cntL most n ((v.doc.drop k).map F.value)))) →
      LH ⟨false, 0⟩ 142 10 [.fn (.func 166) [.ptr 2 0, .ptr 0 0, .ptr 1 0], .sl false v.doc.length (encFs v.doc), .int .i64 (v.doc.length : Int), .int .i64 (k : Int)] (H3 most (d + 1) n) Q) ?_ ?_ hk
  · intro n h1 hn h4 hq
    refine labelIs ?_
    rw [l142_10_166]
    have hlt : decide ((v.doc.length : Int) < (v.doc.length : Int)) = false := by simp
    rw [hlt, cond_false]
    have := hq true
    rw [List.drop_length] at this
    exact this
  · intro k hk ih2 n h1 hn h4 hq
    have hx := (hv.field (List.getElem_mem hk)).value
    refine labelIs ?_
    rw [l142_10_166]
    have hlt : decide ((k : Int) < (v.doc.length : Int)) = true := by simpa using hk
    rw [hlt, cond_true, Int.toNat_natCast, wrap_of (by omega)]
    refine ⟨by omega, _, _, _, _, _, _, _, _, seg_F (List.getElem?_eq_getElem hk), _, _, c166 d ih hd most n h1 hn h2 h3 (by rcases h4 with h4 | h4 <;> first | (left; omega) | (right; exact h4)) _ hx, ?_⟩
    rw [drop_get hk, List.map_cons, cntL] at hq
    have hs := size_pos v.doc[k].value
    by_cases hc : n + cntI v.doc[k].value.size (most - n) < most
    · rw [decide_eq_true hc, Bool.not_true, cond_false]
      rw [if_pos hc] at hq
      have hp : 1 ≤ n + cntI v.doc[k].value.size (most - n) := by
        unfold cntI at hc ⊢
        split at hc <;> split <;> omega
      exact ih2 _ hp (by omega) (.inl (by omega)) hq
    · rw [decide_eq_false hc, Bool.not_false, cond_true]
      rw [if_neg hc] at hq
      exact hq false

theorem parts_count (v : V) (hv : v.Sm) (d : Nat) (ih : CntAt d) (hd : d ≤ 100000) (most : Int) (h2 : most ≤ d + 1) (h3 : (d : Int) + 1 ≤ most + 1000000) :
    ∃ b : Bool, CallT 142 [.agg (cV v), .fn (.func 166) [.ptr 2 0, .ptr 0 0, .ptr 1 0]] (H3 most (d + 1) 1) (.bool b) (H3 most (d + 1) (cntL most 1 (partsV v))) := by
  obtain ⟨w, h', h1, b, rfl, rfl⟩ := call_body (P := Tryz.prog) (G := cfg) (M := ⟨false, 0⟩) (f := 142) (args := [.agg (cV v), .fn (.func 166) [.ptr 2 0, .ptr 0 0, .ptr 1 0]]) (h := H3 most (d + 1) 1)
    (Q := fun w h' => ∃ b : Bool, w = .bool b ∧ h' = H3 most (d + 1) (cntL most 1 (partsV v))) (by kernel_rfl) (by kernel_rfl) (by kernel_rfl) (by
      rw [n142_166]
      by_cases h6 : v.kind = 6
      · have e6 : (v.kind == (6 : Int)) = true := by simpa using h6
        have hp : partsV v = v.list := by simp [partsV, h6]
        rw [e6, cond_true, hp]
        exact count_list v hv h6 d ih hd most h2 h3 _ (Nat.zero_le _) 1 (by omega) (by omega) (.inr rfl) (fun b => ⟨b, rfl, by rw [List.drop_zero]⟩)
      · have e6 : (v.kind == (6 : Int)) = false := by simpa using h6
        rw [e6, cond_false]
        by_cases h5 : v.kind = 5
        · have e5 : (v.kind == (5 : Int)) = true := by simpa using h5
          have hp : partsV v = v.doc.map F.value := by simp [partsV, h5]
          rw [e5, cond_true, hp]
          exact count_doc v hv d ih hd most h2 h3 _ (Nat.zero_le _) 1 (by omega) (by omega) (.inr rfl) (fun b => ⟨b, rfl, by rw [List.drop_zero]⟩)
        · have e5 : (v.kind == (5 : Int)) = false := by simpa using h5
          have hp : partsV v = [] := by simp [partsV, e5, e6]
          rw [e5, cond_false, hp]
          exact ⟨true, rfl, rfl⟩)
  exact ⟨b, h1⟩

/-- count -/
theorem c139 : ∀ d : Nat, d ≤ 100000 → CntAt d
  | 0, _ => by
    intro most h1 h2 v hv
    refine pureIs (M := ⟨true, 0⟩) (by kernel_rfl) (by simp) ?_
    rw [n139]
    refine ⟨_, rfl, _, read_of (n := 0) rfl, ?_⟩
    rw [show decide ((0 : Int) ≤ 0) = true from rfl, cond_true]
    refine ⟨_, read_of (n := 1) rfl, _, read_of (n := most) rfl, ?_⟩
    unfold cntI
    have h1 : most ≤ 0 := by simpa using h1
    rw [if_pos h1, if_pos (by omega)]
  | d + 1, hd => by
    intro most h1 h2 v hv
    refine pureIs (M := ⟨true, 0⟩) (by kernel_rfl) (by simp) ?_
    rw [n139]
    refine ⟨_, rfl, _, read_of (n := ((d + 1 : Nat) : Int)) rfl, ?_⟩
    rw [show decide (((d + 1 : Nat) : Int) ≤ 0) = false by simp, cond_false]
    obtain ⟨b, hb⟩ := parts_count v hv d (c139 d (by omega)) (by omega) most (by omega) (by omega)
    refine ⟨b, _, hb, _, read_of (n := cntL most 1 (partsV v)) rfl, _, read_of (n := most) rfl, ?_⟩
    rw [← cntL_size]
    congr 1
    split <;> omega
/-- Nodes -/
theorem c105 (v : V) (hv : v.Sm) : CallT 105 [.agg (cV v)] [] (.int .i64 ((min v.size 1025 : Nat) : Int)) [] := by
  refine pureIs (M := ⟨false, 0⟩) (by kernel_rfl) (by simp) ?_
  rw [n105]
  refine ⟨_, pcIs (by kernel_rfl) (by simp) (c139 1025 (by omega) 1025 (by omega) (by omega) v hv), ?_⟩
  unfold cntI
  rw [if_neg (by omega)]
  congr 1
  omega
end Go.Proofs.YtdnhhdplcminlaaGreatDoor.AI
