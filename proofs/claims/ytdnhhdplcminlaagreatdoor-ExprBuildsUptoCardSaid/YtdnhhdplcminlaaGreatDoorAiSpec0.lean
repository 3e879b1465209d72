/- What a function comes to, for the whole program; data without marks of the heap. -/
import Derived.Test.YtdnhhdplcminlaaGreatDoorAiKOk4
import Derived.Test.YtdnhhdplcminlaaGreatDoorAiOk
import Derived.KernelRfl
set_option maxHeartbeats 400000
set_option maxRecDepth 100000
set_option linter.unusedVariables false
set_option linter.unusedSimpArgs false
set_option linter.unusedSectionVars false
namespace Go.Proofs.YtdnhhdplcminlaaGreatDoor.AI

abbrev M0 : Mode := ⟨false, 0⟩
abbrev M1 : Mode := ⟨true, 0⟩

/-- A call in this program. -/
abbrev CallT := Call Tryz.prog cfg
abbrev PCT := PC Tryz.prog cfg

def pureB (f : FuncId) : Bool := (cfg.prim f).isNone && cfg.pure f && !cfg.nr f && !cfg.nk f
def heapB (f : FuncId) : Bool := (cfg.prim f).isNone && !cfg.pure f && (cfg.hprim f).isNone

/-- Data that hold no mark of the heap, in the form that calls see. -/
def Cn (args : List AV) : Prop := eraseL false noRes args = some args
def CnW (v : AV) : Prop := eraseW false noRes v = some v
@[simp] theorem Cn_nil : Cn [] := rfl
@[simp] theorem Cn_cons (v : AV) (l : List AV) : Cn (v :: l) ↔ CnW v ∧ Cn l := by
  unfold Cn CnW
  simp only [eraseL]
  constructor
  · intro h
    split at h <;> try cases h
    rename_i a ha
    split at h <;> try cases h
    rename_i b hb
    exact ⟨ha, hb⟩
  · rintro ⟨h1, h2⟩
    simp [h1, h2]
@[simp] theorem Cn_append : ∀ (l r : List AV), Cn (l ++ r) ↔ Cn l ∧ Cn r
  | [], r => by simp
  | v :: l, r => by simp [Cn_append l r, and_assoc]
@[simp] theorem CnW_int (k : IntKind) (n : Int) : CnW (.int k n) := rfl
@[simp] theorem CnW_bool (b : Bool) : CnW (.bool b) := rfl
@[simp] theorem CnW_str (s : List UInt8) : CnW (.str s) := rfl
@[simp] theorem CnW_nilfn : CnW .nilfn := rfl
@[simp] theorem CnW_nilp : CnW .nilp := rfl
@[simp] theorem CnW_sl (n : Nat) (cs : List AV) : CnW (.sl false n cs) ↔ Cn cs := by
  unfold CnW Cn
  simp only [eraseW, Bool.and_false]
  constructor
  · intro h
    obtain ⟨ds, hd, he⟩ := Option.map_eq_some_iff.1 h
    cases he
    exact hd
  · intro h
    simp [h]
@[simp] theorem CnW_agg (cs : List AV) : CnW (.agg cs) ↔ Cn cs := by
  unfold CnW Cn
  simp only [eraseW]
  constructor
  · intro h
    obtain ⟨ds, hd, he⟩ := Option.map_eq_some_iff.1 h
    cases he
    exact hd
  · intro h
    simp [h]
@[simp] theorem CnW_tup (cs : List AV) : CnW (.tup cs) ↔ Cn cs := by
  unfold CnW Cn
  simp only [eraseW]
  constructor
  · intro h
    obtain ⟨ds, hd, he⟩ := Option.map_eq_some_iff.1 h
    cases he
    exact hd
  · intro h
    simp [h]
@[simp] theorem CnW_fn (f : Fn) (cs : List AV) : CnW (.fn f cs) ↔ Cn cs := by
  unfold CnW Cn
  simp only [eraseW]
  constructor
  · intro h
    obtain ⟨ds, hd, he⟩ := Option.map_eq_some_iff.1 h
    cases he
    exact hd
  · intro h
    simp [h]

theorem nk_of {f : FuncId} (h : pureB f = true) : cfg.prim f = none ∧ cfg.pure f = true ∧ cfg.nr f = false ∧ cfg.nk f = false := by
  simp only [pureB, Bool.and_eq_true, Option.isNone_iff_eq_none, Bool.not_eq_true'] at h
  exact ⟨h.1.1.1, h.1.1.2, h.1.2, h.2⟩

/-- A function that sees plain data hands back v. -/
theorem pureIs {M : Mode} {f : FuncId} {args : List AV} {v : AV} (hf : pureB f = true) (ha : Cn args) (hb : BodyP Tryz.prog cfg M f args [] (retE (· = v))) : CallT f args [] v [] := by
  obtain ⟨h1, h2, h3, h4⟩ := nk_of hf
  exact pure_is h1 h2 h3 (by rw [h4]; exact ha) hb
/-- A function over the heap hands back v. -/
theorem heapIs {M : Mode} {f : FuncId} {args : List AV} {h h' : Heap} {v : AV} (hf : heapB f = true) (hb : BodyP Tryz.prog cfg M f args h (fun w k => w = v ∧ k = h')) : CallT f args h v h' := by
  simp only [heapB, Bool.and_eq_true, Option.isNone_iff_eq_none, Bool.not_eq_true'] at hf
  exact call_is hf.1.1 hf.1.2 hf.2 hb

/-- A call with plain data, from where it stands. -/
theorem pcIs {f : FuncId} {args : List AV} {v : AV} (hn : nkOf cfg f = false) (ha : Cn args) (h : CallT f args [] v []) : PCT f args v :=
  ⟨args, by rw [hn]; exact ha, h⟩
theorem pcOf {f : FuncId} {args a : List AV} {v : AV} (hn : nkOf cfg f = false) (ha : eraseL false noRes args = some a) (h : CallT f a [] v []) : PCT f args v :=
  ⟨a, by rw [hn]; exact ha, h⟩

theorem labelIs {M : Mode} {f : FuncId} {r : Nat} {vals : List AV} {h : Heap} {Q : AV → Heap → Prop} (hb : LabelB Tryz.prog cfg M f r vals h Q) : LabelP Tryz.prog cfg M f r vals h Q := label_of hb
end Go.Proofs.YtdnhhdplcminlaaGreatDoor.AI
