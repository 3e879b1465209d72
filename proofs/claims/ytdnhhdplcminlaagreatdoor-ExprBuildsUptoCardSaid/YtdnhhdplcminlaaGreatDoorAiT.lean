/- The data of the program, in plain Lean, and how they lie in cells. -/
import Derived.Test.YtdnhhdplcminlaaGreatDoorAiSpec0
set_option maxHeartbeats 400000
set_option maxRecDepth 100000
set_option linter.unusedVariables false
set_option linter.unusedSimpArgs false
set_option linter.unusedSectionVars false
namespace Go.Proofs.YtdnhhdplcminlaaGreatDoor.AI
open Go

abbrev Str := List UInt8
mutual
/-- api.Value -/
inductive V where
  | mk (kind int : Int) (text : Str) (list : List V) (doc : List F)
/-- api.Field -/
inductive F where
  | mk (name : Str) (value : V)
end
/-- api.Expr -/
inductive E where
  | mk (op : Int) (path : List Str) (name : Str) (names : List Str) (arg : V) (n : Int) (kids : List E)

def V.kind : V → Int | .mk k _ _ _ _ => k
def V.int : V → Int | .mk _ i _ _ _ => i
def V.text : V → Str | .mk _ _ t _ _ => t
def V.list : V → List V | .mk _ _ _ l _ => l
def V.doc : V → List F | .mk _ _ _ _ d => d
def F.name : F → Str | .mk n _ => n
def F.value : F → V | .mk _ v => v
def E.op : E → Int | .mk o _ _ _ _ _ _ => o
def E.path : E → List Str | .mk _ p _ _ _ _ _ => p
def E.name : E → Str | .mk _ _ n _ _ _ _ => n
def E.names : E → List Str | .mk _ _ _ l _ _ _ => l
def E.arg : E → V | .mk _ _ _ _ a _ _ => a
def E.n : E → Int | .mk _ _ _ _ _ n _ => n
def E.kids : E → List E | .mk _ _ _ _ _ _ k => k

mutual
def encV : V → List AV
  | .mk k i t l d => [.int .i64 k, .int .i64 i, .str t, .sl false l.length (encVs l), .sl false d.length (encFs d)]
def encVs : List V → List AV
  | [] => []
  | v :: l => encV v ++ encVs l
def encF : F → List AV
  | .mk n v => .str n :: encV v
def encFs : List F → List AV
  | [] => []
  | f :: l => encF f ++ encFs l
end
def encS (l : List Str) : List AV := l.map .str
mutual
def encE : E → List AV
  | .mk op p n ns a m ks => [.int .i64 op, .sl false p.length (encS p), .str n, .sl false ns.length (encS ns)] ++ encV a ++ [.int .i64 m, .sl false ks.length (encEs ks)]
def encEs : List E → List AV
  | [] => []
  | e :: l => encE e ++ encEs l
end

/-- The cells, one by one. -/
abbrev cV (v : V) : List AV := [.int .i64 v.kind, .int .i64 v.int, .str v.text, .sl false v.list.length (encVs v.list), .sl false v.doc.length (encFs v.doc)]
abbrev cF (f : F) : List AV := [.str f.name, .int .i64 f.value.kind, .int .i64 f.value.int, .str f.value.text, .sl false f.value.list.length (encVs f.value.list), .sl false f.value.doc.length (encFs f.value.doc)]
abbrev cE (e : E) : List AV := [.int .i64 e.op, .sl false e.path.length (encS e.path), .str e.name, .sl false e.names.length (encS e.names), .int .i64 e.arg.kind, .int .i64 e.arg.int, .str e.arg.text, .sl false e.arg.list.length (encVs e.arg.list), .sl false e.arg.doc.length (encFs e.arg.doc), .int .i64 e.n, .sl false e.kids.length (encEs e.kids)]
theorem encV_eq (v : V) : encV v = cV v := by cases v; rfl
theorem encF_eq (f : F) : encF f = cF f := by
  obtain ⟨n, v⟩ := f
  cases v
  rfl
theorem encE_eq (e : E) : encE e = cE e := by
  obtain ⟨op, p, n, ns, a, m, ks⟩ := e
  cases a
  rfl

@[simp] theorem encV_length (v : V) : (encV v).length = 5 := by rw [encV_eq]; rfl
@[simp] theorem encF_length (f : F) : (encF f).length = 6 := by rw [encF_eq]; rfl
@[simp] theorem encE_length (e : E) : (encE e).length = 11 := by rw [encE_eq]; rfl
@[simp] theorem encS_length (l : List Str) : (encS l).length = l.length := by simp [encS]

theorem encVs_eq : ∀ l : List V, encVs l = l.flatMap encV
  | [] => rfl
  | v :: l => by simp [encVs, encVs_eq l]
theorem encFs_eq : ∀ l : List F, encFs l = l.flatMap encF
  | [] => rfl
  | v :: l => by simp [encFs, encFs_eq l]
theorem encEs_eq : ∀ l : List E, encEs l = l.flatMap encE
  | [] => rfl
  | v :: l => by simp [encEs, encEs_eq l]
theorem encS_eq (l : List Str) : encS l = l.flatMap fun s => [.str s] := by
  induction l with
  | nil => rfl
  | cons s l ih => simp [encS] at ih ⊢; simp [ih]

theorem flat_length {α : Type} {f : α → List AV} {sz : Nat} (hf : ∀ a, (f a).length = sz) : ∀ l : List α, (l.flatMap f).length = l.length * sz
  | [] => by simp
  | a :: l => by simp [flat_length hf l, hf, Nat.succ_mul]; omega
@[simp] theorem encVs_length (l : List V) : (encVs l).length = l.length * 5 := by rw [encVs_eq]; exact flat_length encV_length l
@[simp] theorem encFs_length (l : List F) : (encFs l).length = l.length * 6 := by rw [encFs_eq]; exact flat_length encF_length l
@[simp] theorem encEs_length (l : List E) : (encEs l).length = l.length * 11 := by rw [encEs_eq]; exact flat_length encE_length l

theorem drop_flat {α : Type} {f : α → List AV} {sz : Nat} (hf : ∀ a, (f a).length = sz) : ∀ (l : List α) (i : Nat), (l.flatMap f).drop (i * sz) = (l.drop i).flatMap f
  | [], i => by simp
  | a :: l, 0 => by simp
  | a :: l, i + 1 => by
    rw [List.flatMap_cons, List.drop_succ_cons, Nat.succ_mul, Nat.add_comm, ← List.drop_drop]
    rw [show (f a ++ l.flatMap f).drop sz = l.flatMap f by rw [← hf a]; simp]
    exact drop_flat hf l i
theorem take_flat {α : Type} {f : α → List AV} {sz : Nat} (hf : ∀ a, (f a).length = sz) : ∀ (l : List α) (i : Nat), (l.flatMap f).take (i * sz) = (l.take i).flatMap f
  | [], i => by simp
  | a :: l, 0 => by simp
  | a :: l, i + 1 => by
    rw [List.flatMap_cons, List.take_succ_cons, List.flatMap_cons, Nat.succ_mul, Nat.add_comm, List.take_add]
    have h1 : (f a ++ l.flatMap f).take sz = f a := by rw [← hf a]; simp
    have h2 : (f a ++ l.flatMap f).drop sz = l.flatMap f := by rw [← hf a]; simp
    rw [h1, h2, take_flat hf l i]

/-- A part of an element. -/
theorem seg_flat {α : Type} {f : α → List AV} {sz : Nat} (hf : ∀ a, (f a).length = sz) {l : List α} {i : Nat} {a : α} (hi : l[i]? = some a) {o n : Nat} (ho : o + n ≤ sz) : seg (l.flatMap f) (i * sz + o) n = some (((f a).drop o).take n) := by
  have hlt : i < l.length := (List.getElem?_eq_some_iff.1 hi).1
  have ha : l[i] = a := (List.getElem?_eq_some_iff.1 hi).2
  have hle : (i + 1) * sz ≤ l.length * sz := Nat.mul_le_mul_right _ hlt
  rw [Nat.succ_mul] at hle
  unfold seg
  rw [if_pos (by rw [flat_length hf]; omega), ← List.drop_drop, drop_flat hf]
  have : l.drop i = a :: l.drop (i + 1) := by rw [List.drop_eq_getElem_cons hlt, ha]
  rw [this, List.flatMap_cons, List.drop_append_of_le_length (by rw [hf]; omega), List.take_append_of_le_length (by simp [hf]; omega)]

theorem seg_S {l : List Str} {i : Nat} {a : Str} (hi : l[i]? = some a) : seg (encS l) (i * 1) 1 = some [.str a] := by
  rw [encS_eq]
  have := seg_flat (f := fun s => [AV.str s]) (sz := 1) (fun _ => rfl) hi (o := 0) (n := 1) (by omega)
  simpa using this
theorem seg_V {l : List V} {i : Nat} {a : V} (hi : l[i]? = some a) : seg (encVs l) (i * 5) 5 = some (cV a) := by
  rw [encVs_eq, ← encV_eq]
  have := seg_flat encV_length hi (o := 0) (n := 5) (by omega)
  rw [Nat.add_zero, List.drop_zero, List.take_of_length_le (by simp)] at this
  exact this
theorem seg_F {l : List F} {i : Nat} {a : F} (hi : l[i]? = some a) : seg (encFs l) (i * 6) 6 = some (cF a) := by
  rw [encFs_eq, ← encF_eq]
  have := seg_flat encF_length hi (o := 0) (n := 6) (by omega)
  rw [Nat.add_zero, List.drop_zero, List.take_of_length_le (by simp)] at this
  exact this
theorem seg_Fn {l : List F} {i : Nat} {a : F} (hi : l[i]? = some a) : seg (encFs l) (i * 6 + 0) 1 = some [.str a.name] := by
  rw [encFs_eq]
  have := seg_flat encF_length hi (o := 0) (n := 1) (by omega)
  rw [List.drop_zero, encF_eq] at this
  simpa using this
theorem seg_Fv {l : List F} {i : Nat} {a : F} (hi : l[i]? = some a) : seg (encFs l) (i * 6 + 1) 5 = some (cV a.value) := by
  rw [encFs_eq]
  have := seg_flat encF_length hi (o := 1) (n := 5) (by omega)
  rw [encF_eq] at this
  simpa using this
theorem seg_E {l : List E} {i : Nat} {a : E} (hi : l[i]? = some a) : seg (encEs l) (i * 11) 11 = some (cE a) := by
  rw [encEs_eq, ← encE_eq]
  have := seg_flat encE_length hi (o := 0) (n := 11) (by omega)
  rw [Nat.add_zero, List.drop_zero, List.take_of_length_le (by simp)] at this
  exact this

theorem Cn_flat {α : Type} {f : α → List AV} (hf : ∀ a, Cn (f a)) : ∀ l : List α, Cn (l.flatMap f)
  | [] => Cn_nil
  | a :: l => by simp [hf a, Cn_flat hf l]
@[simp] theorem Cn_encS (l : List Str) : Cn (encS l) := by rw [encS_eq]; exact Cn_flat (fun s => by simp) l
mutual
theorem Cn_encV' : ∀ v : V, Cn (encV v)
  | .mk k i t l d => by simp [encV, Cn_encVs' l, Cn_encFs' d]
theorem Cn_encVs' : ∀ l : List V, Cn (encVs l)
  | [] => by simp [encVs]
  | v :: l => by simp [encVs, Cn_encV' v, Cn_encVs' l]
theorem Cn_encF' : ∀ f : F, Cn (encF f)
  | .mk n v => by simp [encF, Cn_encV' v]
theorem Cn_encFs' : ∀ l : List F, Cn (encFs l)
  | [] => by simp [encFs]
  | v :: l => by simp [encFs, Cn_encF' v, Cn_encFs' l]
end
@[simp] theorem Cn_encV (v : V) : Cn (encV v) := Cn_encV' v
@[simp] theorem Cn_encVs (l : List V) : Cn (encVs l) := Cn_encVs' l
@[simp] theorem Cn_encF (v : F) : Cn (encF v) := Cn_encF' v
@[simp] theorem Cn_encFs (l : List F) : Cn (encFs l) := Cn_encFs' l
mutual
theorem Cn_encE' : ∀ e : E, Cn (encE e)
  | .mk op p n ns a m ks => by simp [encE, Cn_encEs' ks]
theorem Cn_encEs' : ∀ l : List E, Cn (encEs l)
  | [] => by simp [encEs]
  | v :: l => by simp [encEs, Cn_encE' v, Cn_encEs' l]
end
@[simp] theorem Cn_encE (v : E) : Cn (encE v) := Cn_encE' v
@[simp] theorem Cn_encEs (l : List E) : Cn (encEs l) := Cn_encEs' l

theorem wrap_of {n : Int} (h : -9223372036854775808 ≤ n ∧ n ≤ 9223372036854775807) : IntKind.i64.wrap n = n := by
  have e1 : (2 : Int) ^ 64 = 18446744073709551616 := by decide
  have e2 : (2 : Int) ^ (64 - 1) = 9223372036854775808 := by decide
  simp only [IntKind.wrap, IntKind.bits, IntKind.signed, Bool.true_and, decide_eq_true_eq, e1, e2]
  split <;> omega

mutual
/-- All lengths are small: at most 2^29. -/
def V.Sm : V → Prop
  | .mk _ _ t l d => t.length ≤ 536870912 ∧ l.length ≤ 536870912 ∧ d.length ≤ 536870912 ∧ VsSm l ∧ FsSm d
def VsSm : List V → Prop
  | [] => True
  | v :: l => v.Sm ∧ VsSm l
def F.Sm : F → Prop
  | .mk n v => n.length ≤ 536870912 ∧ v.Sm
def FsSm : List F → Prop
  | [] => True
  | f :: l => f.Sm ∧ FsSm l
end
def SsSm (l : List Str) : Prop := l.length ≤ 536870912 ∧ ∀ s ∈ l, s.length ≤ 536870912
mutual
def E.Sm : E → Prop
  | .mk _ p n ns a _ ks => SsSm p ∧ n.length ≤ 536870912 ∧ SsSm ns ∧ a.Sm ∧ ks.length ≤ 536870912 ∧ EsSm ks
def EsSm : List E → Prop
  | [] => True
  | e :: l => e.Sm ∧ EsSm l
end
theorem VsSm_mem : ∀ {l : List V} {v : V}, VsSm l → v ∈ l → v.Sm
  | u :: l, v, h, hm => by
    rcases List.mem_cons.1 hm with rfl | hm
    · exact h.1
    · exact VsSm_mem h.2 hm
theorem FsSm_mem : ∀ {l : List F} {v : F}, FsSm l → v ∈ l → v.Sm
  | u :: l, v, h, hm => by
    rcases List.mem_cons.1 hm with rfl | hm
    · exact h.1
    · exact FsSm_mem h.2 hm
theorem EsSm_mem : ∀ {l : List E} {v : E}, EsSm l → v ∈ l → v.Sm
  | u :: l, v, h, hm => by
    rcases List.mem_cons.1 hm with rfl | hm
    · exact h.1
    · exact EsSm_mem h.2 hm
theorem V.Sm.text {v : V} (h : v.Sm) : v.text.length ≤ 536870912 := by cases v; exact h.1
theorem V.Sm.list {v : V} (h : v.Sm) : v.list.length ≤ 536870912 := by cases v; exact h.2.1
theorem V.Sm.doc {v : V} (h : v.Sm) : v.doc.length ≤ 536870912 := by cases v; exact h.2.2.1
theorem V.Sm.elem {v x : V} (h : v.Sm) (hx : x ∈ v.list) : x.Sm := by cases v; exact VsSm_mem h.2.2.2.1 hx
theorem V.Sm.field {v : V} {f : F} (h : v.Sm) (hx : f ∈ v.doc) : f.Sm := by cases v; exact FsSm_mem h.2.2.2.2 hx
theorem F.Sm.name {f : F} (h : f.Sm) : f.name.length ≤ 536870912 := by cases f; exact h.1
theorem F.Sm.value {f : F} (h : f.Sm) : f.value.Sm := by cases f; exact h.2
theorem E.Sm.path {e : E} (h : e.Sm) : SsSm e.path := by cases e; exact h.1
theorem E.Sm.name {e : E} (h : e.Sm) : e.name.length ≤ 536870912 := by cases e; exact h.2.1
theorem E.Sm.names {e : E} (h : e.Sm) : SsSm e.names := by cases e; exact h.2.2.1
theorem E.Sm.arg {e : E} (h : e.Sm) : e.arg.Sm := by cases e; exact h.2.2.2.1
theorem E.Sm.kids {e : E} (h : e.Sm) : e.kids.length ≤ 536870912 := by cases e; exact h.2.2.2.2.1
theorem E.Sm.kid {e k : E} (h : e.Sm) (hk : k ∈ e.kids) : k.Sm := by cases e; exact EsSm_mem h.2.2.2.2.2 hk
end Go.Proofs.YtdnhhdplcminlaaGreatDoor.AI
