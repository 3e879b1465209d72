/- What the abstract values stand for in a world. -/
import Derived.Test.YtdnhhdplcminlaaGreatDoorAiDef
import Derived.Laws.AppendOwn
set_option maxHeartbeats 400000
set_option linter.unusedVariables false
set_option linter.unusedSimpArgs false
set_option linter.unusedSectionVars false
namespace Go.Proofs.YtdnhhdplcminlaaGreatDoor.AI
variable [Nu]

inductive Key where
  | box (t : Nat)
  | obj (id : Nat)
  deriving DecidableEq

/-- What a reading leans on: cells that hold a value and are not written; where the call's own objects lie. -/
structure RC where
  S : Addr → Value → Prop
  loc : Key → Nat
  isTok : Nat → Bool
  cap : Nat → Nat
  len : Nat
  ob : Key → Option AObj

inductive Rep (X : RC) : AV → Value → Prop
  | undef (v : Value) : Rep X .undef v
  | skip : Rep X .skip undef
  | bool (b : Bool) : Rep X (.bool b) (.bool b)
  | int (k : IntKind) (n : Int) : Rep X (.int k n) (.int k n)
  | sym (k : IntKind) (t : Tm) : Rep X (.sym k t) (.int k t.val)
  | str (s : List UInt8) : Rep X (.str s) (.string ⟨s.toArray⟩)
  | nilp : Rep X .nilp (.pointer none)
  | ptr (id off : Nat) (hid : id < X.len) (ht : X.isTok id = false) : Rep X (.ptr id off) (.pointer (some ((⟨X.loc (.obj id), 0, none⟩ : Addr).add off)))
  | ip (cs : List AV) (off : Nat) (a : Addr) (vs : Nat → Value) (hS : ∀ j, j < cs.length → X.S (a.add j) (vs j)) (hR : ∀ j (hj : j < cs.length), Rep X cs[j] (vs j)) :
      Rep X (.ip cs off) (.pointer (some (a.add off)))
  | nilsl : Rep X .nilsl (.slice none 0 0)
  | sl (full : Bool) (n : Nat) (cs : List AV) (a : Addr) (cap : Nat) (vs : Nat → Value) (hn : n ≤ cap) (hm : cap ≤ maxLen) (hf : full = true → cap = n)
      (hS : ∀ j, j < cs.length → X.S (a.add j) (vs j)) (hR : ∀ j (hj : j < cs.length), Rep X cs[j] (vs j)) : Rep X (.sl full n cs) (.slice (some a) n cap)
  | slN (full : Bool) : Rep X (.sl full 0 []) (.slice none 0 0)
  | tk (id n : Nat) (cs : List AV) (a : Addr) (cap : Nat) (vs : Nat → Value) (e : TypeId) (m c : Nat) (hpos : 0 < n) (hn : n ≤ cap) (hm : cap ≤ maxLen)
      (hid : X.ob (.obj id) = some (.tok e m c)) (hnm : n ≤ m) (htip : n = m → a = ⟨X.loc (.obj id), 0, none⟩ ∧ cap = X.cap id)
      (hS : ∀ j, j < cs.length → X.S (a.add j) (vs j)) (hR : ∀ j (hj : j < cs.length), Rep X cs[j] (vs j)) : Rep X (.tk id n cs) (.slice (some a) n cap)
  | tkN (id : Nat) : Rep X (.tk id 0 []) (.slice none 0 0)
  | ms (id off n c : Nat) (a : Addr) (cap : Nat) (hn : n ≤ cap) (hm : cap ≤ maxLen) (hid : 0 < c → id < X.len) (ht : 0 < c → X.isTok id = false)
      (ha : 0 < c → a = (⟨X.loc (.obj id), 0, none⟩ : Addr).add off) : Rep X (.ms id off n c) (.slice (some a) n cap)
  | msN (id off : Nat) : Rep X (.ms id off 0 0) (.slice none 0 0)
  | se (a : Addr) (cap : Nat) (hm : cap ≤ maxLen) : Rep X .se (.slice (some a) 0 cap)
  | nilmap : Rep X .nilmap (.map none)
  | mapv (id : Nat) (hid : id < X.len) (ht : X.isTok id = false) : Rep X (.mapv id) (.map (some (X.loc (.obj id))))
  | nilfn : Rep X .nilfn .nilFunc
  | fn (f : Fn) (caps : List AV) (vs : List Value) (hl : vs.length = caps.length) (hR : ∀ j (hj : j < caps.length), Rep X caps[j] (vs.getD j undef)) : Rep X (.fn f caps) (.func f #[] vs.toArray)
  | nilif : Rep X .nilif .nilIface
  | agg (cs : List AV) (vs : List Value) (hl : vs.length = cs.length) (h1 : ∀ v ∈ vs, v.oneCell' = true) (hR : ∀ j (hj : j < cs.length), Rep X cs[j] (vs.getD j undef)) : Rep X (.agg cs) (.agg vs.toArray)
  | tup (cs : List AV) (vs : List Value) (hl : vs.length = cs.length) (hR : ∀ j (hj : j < cs.length), Rep X cs[j] (vs.getD j undef)) : Rep X (.tup cs) (.tuple vs.toArray)
  | it (id : Nat) (hid : id < X.len) (ht : X.isTok id = false) : Rep X (.it id) (.pointer (some ⟨X.loc (.obj id), 0, none⟩))

/-- A later reading. -/
structure RC.Le (X Y : RC) : Prop where
  S : ∀ a v, X.S a v → Y.S a v
  len : X.len ≤ Y.len
  isTok : ∀ id, id < X.len → Y.isTok id = X.isTok id
  loc : ∀ id, id < X.len → X.isTok id = false → Y.loc (.obj id) = X.loc (.obj id)
  tok : ∀ id e m c, X.ob (.obj id) = some (.tok e m c) → ∃ m' c', Y.ob (.obj id) = some (.tok e m' c') ∧ m ≤ m' ∧ (m' = m → Y.loc (.obj id) = X.loc (.obj id) ∧ Y.cap id = X.cap id)

theorem RC.Le.refl (X : RC) : X.Le X := ⟨fun _ _ h => h, Nat.le_refl _, fun _ _ => rfl, fun _ _ _ => rfl, fun _ _ m c h => ⟨m, c, h, Nat.le_refl _, fun _ => ⟨rfl, rfl⟩⟩⟩

theorem RC.Le.trans {X Y Z : RC} (h : X.Le Y) (k : Y.Le Z) : X.Le Z := by
  refine ⟨fun a v x => k.S a v (h.S a v x), Nat.le_trans h.len k.len, fun id hi => ?_, fun id hi ht => ?_, fun id e m c ho => ?_⟩
  · rw [k.isTok id (Nat.lt_of_lt_of_le hi h.len), h.isTok id hi]
  · rw [k.loc id (Nat.lt_of_lt_of_le hi h.len) (by rw [h.isTok id hi]; exact ht), h.loc id hi ht]
  · obtain ⟨m1, c1, o1, l1, t1⟩ := h.tok id e m c ho
    obtain ⟨m2, c2, o2, l2, t2⟩ := k.tok id e m1 c1 o1
    refine ⟨m2, c2, o2, Nat.le_trans l1 l2, fun hm => ?_⟩
    have e1 : m1 = m := by omega
    have e2 : m2 = m1 := by omega
    exact ⟨(t2 e2).1.trans (t1 e1).1, (t2 e2).2.trans (t1 e1).2⟩

theorem Rep.mono {X Y : RC} (h : X.Le Y) {v : AV} {c : Value} (r : Rep X v c) : Rep Y v c := by
  induction r with
  | undef v => exact .undef v
  | skip => exact .skip
  | bool b => exact .bool b
  | int k n => exact .int k n
  | sym k t => exact .sym k t
  | str s => exact .str s
  | nilp => exact .nilp
  | ptr id off hid ht =>
    rw [← h.loc id hid ht]
    exact .ptr id off (Nat.lt_of_lt_of_le hid h.len) (by rw [h.isTok id hid]; exact ht)
  | ip cs off a vs hS hR ih => exact .ip cs off a vs (fun j hj => h.S _ _ (hS j hj)) ih
  | nilsl => exact .nilsl
  | sl full n cs a cap vs hn hm hf hS hR ih => exact .sl full n cs a cap vs hn hm hf (fun j hj => h.S _ _ (hS j hj)) ih
  | slN full => exact .slN full
  | tkN id => exact .tkN id
  | tk id n cs a cap vs e m c hpos hn hm hid hnm htip hS hR ih =>
    obtain ⟨m', c', ho, hle, ht⟩ := h.tok id e m c hid
    refine .tk id n cs a cap vs e m' c' hpos hn hm ho (Nat.le_trans hnm hle) (fun hx => ?_) (fun j hj => h.S _ _ (hS j hj)) ih
    have e1 : m' = m := by omega
    rw [(ht e1).1, (ht e1).2]
    exact htip (by omega)
  | ms id off n c a cap hn hm hid ht ha =>
    exact .ms id off n c a cap hn hm (fun hc => Nat.lt_of_lt_of_le (hid hc) h.len) (fun hc => by rw [h.isTok id (hid hc)]; exact ht hc) (fun hc => by rw [h.loc id (hid hc) (ht hc)]; exact ha hc)
  | msN id off => exact .msN id off
  | se a cap hm => exact .se a cap hm
  | nilmap => exact .nilmap
  | mapv id hid ht =>
    rw [← h.loc id hid ht]
    exact .mapv id (Nat.lt_of_lt_of_le hid h.len) (by rw [h.isTok id hid]; exact ht)
  | nilfn => exact .nilfn
  | fn f caps vs hl hR ih => exact .fn f caps vs hl ih
  | nilif => exact .nilif
  | agg cs vs hl h1 hR ih => exact .agg cs vs hl h1 ih
  | tup cs vs hl hR ih => exact .tup cs vs hl ih
  | it id hid ht =>
    rw [← h.loc id hid ht]
    exact .it id (Nat.lt_of_lt_of_le hid h.len) (by rw [h.isTok id hid]; exact ht)

theorem Rep.sl_inv {X : RC} {f : Bool} {n : Nat} {cs : List AV} {c : Value} (h : Rep X (.sl f n cs) c) : (∃ (a : Addr) (cap : Nat) (vs : Nat → Value), c = .slice (some a) n cap ∧ n ≤ cap ∧ cap ≤ maxLen ∧ (f = true → cap = n) ∧
    (∀ j, j < cs.length → X.S (a.add j) (vs j)) ∧ ∀ j (hj : j < cs.length), Rep X cs[j] (vs j)) ∨ (n = 0 ∧ cs = [] ∧ c = .slice none 0 0) := by
  cases h
  · exact .inl ⟨_, _, _, rfl, by assumption, by assumption, by assumption, by assumption, by assumption⟩
  · exact .inr ⟨rfl, rfl, rfl⟩
theorem Rep.tk_inv {X : RC} {id n : Nat} {cs : List AV} {c : Value} (h : Rep X (.tk id n cs) c) : (∃ (a : Addr) (cap : Nat) (vs : Nat → Value) (e : TypeId) (m k : Nat), c = .slice (some a) n cap ∧ n ≤ cap ∧ cap ≤ maxLen ∧
    X.ob (.obj id) = some (.tok e m k) ∧ n ≤ m ∧ (n = m → a = ⟨X.loc (.obj id), 0, none⟩ ∧ cap = X.cap id) ∧
    (∀ j, j < cs.length → X.S (a.add j) (vs j)) ∧ (∀ j (hj : j < cs.length), Rep X cs[j] (vs j)) ∧ 0 < n) ∨ (n = 0 ∧ cs = [] ∧ c = .slice none 0 0) := by
  cases h
  · exact .inl ⟨_, _, _, _, _, _, rfl, by assumption, by assumption, by assumption, by assumption, by assumption, by assumption, by assumption, by assumption⟩
  · exact .inr ⟨rfl, rfl, rfl⟩
theorem Rep.denil {X : RC} {v : AV} {c : Value} (h : Rep X v c) : Rep X (AI.denil v) c := by
  cases h with
  | nilsl => exact .tkN 0
  | _ => first | (constructor <;> assumption) | (apply Rep.ip <;> assumption) | (apply Rep.sl <;> assumption)
theorem Rep.ms_inv {X : RC} {id off n k : Nat} {c : Value} (h : Rep X (.ms id off n k) c) : (∃ a cap, c = .slice (some a) n cap ∧ n ≤ cap ∧ cap ≤ maxLen ∧ (0 < k → id < X.len) ∧ (0 < k → X.isTok id = false) ∧
    (0 < k → a = (⟨X.loc (.obj id), 0, none⟩ : Addr).add off)) ∨ (n = 0 ∧ k = 0 ∧ c = .slice none 0 0) := by
  cases h
  · exact .inl ⟨_, _, rfl, by assumption, by assumption, by assumption, by assumption, by assumption⟩
  · exact .inr ⟨rfl, rfl, rfl⟩

/-- Cells, one by one. -/
def RepC (X : RC) (cs : List AV) (vs : List Value) : Prop := vs.length = cs.length ∧ (∀ v ∈ vs, v.oneCell' = true) ∧ ∀ j (hj : j < cs.length), Rep X cs[j] (vs.getD j undef)
def RepL (X : RC) (cs : List AV) (vs : List Value) : Prop := vs.length = cs.length ∧ ∀ j (hj : j < cs.length), Rep X cs[j] (vs.getD j undef)
theorem Rep.agg_inv {X : RC} {cs : List AV} {c : Value} (h : Rep X (.agg cs) c) : ∃ vs : List Value, c = .agg vs.toArray ∧ RepC X cs vs := by
  cases h
  exact ⟨_, rfl, by assumption, by assumption, by assumption⟩
theorem Rep.tup_inv {X : RC} {cs : List AV} {c : Value} (h : Rep X (.tup cs) c) : ∃ vs : List Value, c = .tuple vs.toArray ∧ RepL X cs vs := by
  cases h
  exact ⟨_, rfl, by assumption, by assumption⟩
theorem RepC.denil {X : RC} {cs : List AV} {vs : List Value} (h : RepC X cs vs) : RepC X (cs.map AI.denil) vs :=
  ⟨by simpa using h.1, h.2.1, fun j hj => by simpa using (h.2.2 j (by simpa using hj)).denil⟩
theorem RepC.mono {X Y : RC} (h : X.Le Y) {cs : List AV} {vs : List Value} (r : RepC X cs vs) : RepC Y cs vs := ⟨r.1, r.2.1, fun j hj => (r.2.2 j hj).mono h⟩
theorem RepL.mono {X Y : RC} (h : X.Le Y) {cs : List AV} {vs : List Value} (r : RepL X cs vs) : RepL Y cs vs := ⟨r.1, fun j hj => (r.2 j hj).mono h⟩
theorem RepC.L {X : RC} {cs : List AV} {vs : List Value} (r : RepC X cs vs) : RepL X cs vs := ⟨r.1, r.2.2⟩
theorem RepL.nil (X : RC) : RepL X [] [] := ⟨rfl, fun j hj => by cases hj⟩
theorem RepC.nil (X : RC) : RepC X [] [] := ⟨rfl, fun v hv => (by cases hv), fun j hj => by cases hj⟩
theorem RepL.cons {X : RC} {v : AV} {c : Value} {cs : List AV} {vs : List Value} (h : Rep X v c) (r : RepL X cs vs) : RepL X (v :: cs) (c :: vs) := by
  refine ⟨by simp [r.1], fun j hj => ?_⟩
  cases j with
  | zero => simpa using h
  | succ j => simpa using r.2 j (by simpa using hj)
theorem RepL.uncons {X : RC} {v : AV} {cs : List AV} {us : List Value} (r : RepL X (v :: cs) us) : ∃ c vs, us = c :: vs ∧ Rep X v c ∧ RepL X cs vs := by
  cases us with
  | nil => have := r.1; simp at this
  | cons c vs => exact ⟨c, vs, rfl, r.2 0 (Nat.zero_lt_succ _), by have := r.1; simpa using this, fun j hj => r.2 (j + 1) (Nat.succ_lt_succ hj)⟩
theorem RepL.app {X : RC} : ∀ {cs ds : List AV} {vs us : List Value}, RepL X cs vs → RepL X ds us → RepL X (cs ++ ds) (vs ++ us)
  | [], ds, vs, us, h, k => by have := h.1; simp at this; subst this; simpa using k
  | v :: cs, ds, vs, us, h, k => by
    obtain ⟨c, vs, rfl, h0, h1⟩ := h.uncons
    exact RepL.cons h0 (RepL.app h1 k)
theorem RepL.drop {X : RC} : ∀ {cs : List AV} {vs : List Value} (n : Nat), RepL X cs vs → RepL X (cs.drop n) (vs.drop n)
  | cs, vs, 0, h => by simpa using h
  | [], vs, n + 1, h => by have := h.1; simp at this; subst this; simpa using h
  | v :: cs, vs, n + 1, h => by
    obtain ⟨c, vs, rfl, h0, h1⟩ := h.uncons
    simpa using RepL.drop n h1
theorem RepL.take {X : RC} : ∀ {cs : List AV} {vs : List Value} (n : Nat), RepL X cs vs → RepL X (cs.take n) (vs.take n)
  | cs, vs, 0, h => by simpa using RepL.nil X
  | [], vs, n + 1, h => by have := h.1; simp at this; subst this; simpa using h
  | v :: cs, vs, n + 1, h => by
    obtain ⟨c, vs, rfl, h0, h1⟩ := h.uncons
    simpa using RepL.cons h0 (RepL.take n h1)
theorem RepL.get? {X : RC} {cs : List AV} {vs : List Value} (h : RepL X cs vs) {i : Nat} {v : AV} (hv : cs[i]? = some v) : ∃ c, vs[i]? = some c ∧ Rep X v c := by
  obtain ⟨hi, rfl⟩ := List.getElem?_eq_some_iff.1 hv
  have := h.2 i hi
  rw [List.getD_eq_getElem?_getD, List.getElem?_eq_getElem (by rw [h.1]; exact hi)] at this
  exact ⟨_, List.getElem?_eq_getElem (by rw [h.1]; exact hi), this⟩
theorem RepC.of {X : RC} {cs : List AV} {vs : List Value} (h : RepL X cs vs) (h1 : ∀ v ∈ vs, v.oneCell' = true) : RepC X cs vs := ⟨h.1, h1, h.2⟩

end Go.Proofs.YtdnhhdplcminlaaGreatDoor.AI
