/- Operations that hand back a value and leave the world alone: arithmetic, comparisons, parts of strings and slices, addresses. -/
import Derived.Test.YtdnhhdplcminlaaGreatDoorAiOps1
set_option maxHeartbeats 400000
set_option linter.unusedVariables false
set_option linter.unusedSimpArgs false
set_option linter.unusedSectionVars false
namespace Go.Proofs.YtdnhhdplcminlaaGreatDoor.AI
variable [Nu]
section
variable {P : Program} {X : RC} (w : World)

theorem bytes_toList (s : List UInt8) : (⟨s.toArray⟩ : ByteArray).toList = s := by
  rw [ByteArray.toList_eq]

theorem run_und {t : TypeId} {d : TypeDesc} (h : P.underlying t = some d) (w : World) : (underlying t).run P w = .ok d w := by simp [underlying, h]
theorem run_size {t : TypeId} {n : Nat} (h : szOf P t = some n) (w : World) : (sizeOf t).run P w = .ok n w := by
  unfold szOf at h
  obtain ⟨i, hi, rfl⟩ := Option.map_eq_some_iff.1 h
  simp [sizeOf, typeInfo, hi]
theorem cellsOf_sz {t : TypeId} {n : Nat} (h : szOf P t = some n) : P.cellsOf t = n := by
  unfold szOf at h
  simp [Program.cellsOf, h]
theorem run_isAgg {t : TypeId} (w : World) (h : P.underlying t ≠ none) : (isAgg t).run P w = .ok (isAggT P t) w := by
  obtain ⟨d, hd⟩ := Option.ne_none_iff_exists'.1 h
  simp only [isAgg, Sem.run_bind, run_und hd, Result.andThen_ok, isAggT, hd]
  cases d <;> simp

theorem equalIn_bool (d : Nat) {t : TypeId} (h : P.underlying t = some .bool) (a b : Bool) : (Op.equalIn (d + 1) t (.bool a) (.bool b)).run P w = .ok (a == b) w := by
  simp [Op.equalIn, run_und h]
theorem equalIn_slice_nil (d : Nat) {t e : TypeId} (h : P.underlying t = some (.slice e)) (a : Option Addr) (n c : Nat) : (Op.equalIn (d + 1) t (.slice a n c) (.slice none 0 0)).run P w = .ok a.isNone w := by
  cases a <;> simp [Op.equalIn, run_und h]
theorem equalIn_ptr_nil (d : Nat) {t e : TypeId} (h : P.underlying t = some (.pointer e)) (a : Option Addr) : (Op.equalIn (d + 1) t (.pointer a) (.pointer none)).run P w = .ok a.isNone w := by
  cases a <;> simp [Op.equalIn, run_und h]
theorem equal_bool {t : TypeId} (h : P.underlying t = some .bool) (a b : Bool) : (Op.equal t (.bool a) (.bool b)).run P w = .ok (a == b) w := equalIn_bool w 9999 h a b
theorem equal_slice_nil {t e : TypeId} (h : P.underlying t = some (.slice e)) (a : Option Addr) (n c : Nat) : (Op.equal t (.slice a n c) (.slice none 0 0)).run P w = .ok a.isNone w := equalIn_slice_nil w 9999 h a n c
theorem equal_ptr_nil {t e : TypeId} (h : P.underlying t = some (.pointer e)) (a : Option Addr) : (Op.equal t (.pointer a) (.pointer none)).run P w = .ok a.isNone w := equalIn_ptr_nil w 9999 h a

theorem string_add {a b : List UInt8} (h : a.length + b.length ≤ 4611686018427387904) : (Op.stringOp .add ⟨a.toArray⟩ ⟨b.toArray⟩).run P w = .ok (.string ⟨(a ++ b).toArray⟩) w := by
  have h1 : ¬ (((⟨a.toArray⟩ : ByteArray).size + (⟨b.toArray⟩ : ByteArray).size : Nat) : Int) > IntKind.i64.max := by
    show ¬ ((a.toArray.size + b.toArray.size : Nat) : Int) > IntKind.i64.max
    simp only [List.size_toArray, IntKind.max, IntKind.signed, IntKind.bits, if_true]
    omega
  simp only [Op.stringOp, if_neg h1, Sem.run_pure]
  congr 2

/-- What is said of the unknown numbers is so. -/
def OraOk (G : Cfg) : Prop := ∀ op a b r, G.ora op a b = some r → cmpI op a.val b.val = some r

theorem sym_ok {G : Cfg} (O : OraOk G) {op : BinOp} {t : TypeId} {k k' : IntKind} {a b : Tm} {v : AV} (xo yo : Operand) (h : symBin G op k a k' b = some v) :
    ∃ u, (do eqGuard op t xo yo (.int k a.val) (.int k' b.val); binOp op t (.int k a.val) (.int k' b.val) : Sem Value).run P w = .ok u w ∧ Rep X v u := by
  unfold symBin at h
  split at h <;> try cases h
  rename_i hk
  simp only [ne_eq, Decidable.not_not] at hk
  subst hk
  have ne0 : G.ora .eql b (.lit 0) = some false → b.val ≠ 0 := by
    intro h0
    have := O _ _ _ _ h0
    simp only [cmpI, Tm.val, Option.some.injEq, beq_eq_false_iff_ne] at this
    exact this
  split at h
  · cases h; exact ⟨_, by simp [eqGuard, binOp, Op.intArith, Tm.val], .sym _ _⟩
  · cases h; exact ⟨_, by simp [eqGuard, binOp, Op.intArith, Tm.val], .sym _ _⟩
  · cases h; exact ⟨_, by simp [eqGuard, binOp, Op.intArith, Tm.val], .sym _ _⟩
  · split at h <;> cases h
    rename_i h0
    refine ⟨_, ?_, .sym _ _⟩
    simp [eqGuard, binOp, Op.intDiv, ne0 h0, Tm.val]
  · split at h <;> cases h
    rename_i h0
    refine ⟨_, ?_, .sym _ _⟩
    simp [eqGuard, binOp, Op.intDiv, ne0 h0, Tm.val]
  all_goals try (
    obtain ⟨r, hr, rfl⟩ := Option.map_eq_some_iff.1 h
    have := O _ _ _ _ hr
    simp only [cmpI, Option.some.injEq] at this
    subst this
    refine ⟨_, ?_, .bool _⟩
    simp [eqGuard, binOp, Op.intCmp]
    done)
  · cases h

theorem bin_ok {G : Cfg} (O : OraOk G) {op : BinOp} {t : TypeId} {x y v : AV} {c d : Value} (xo yo : Operand) (h : aBin P G op t x y = some v) (hx : Rep X x c) (hy : Rep X y d) :
    ∃ u, (do eqGuard op t xo yo c d; binOp op t c d : Sem Value).run P w = .ok u w ∧ Rep X v u := by
  unfold aBin at h
  split at h
  · cases hx; cases hy
    rename_i k a k' b
    cases op <;> simp only [] at h <;> (try split at h) <;> (try split at h) <;> (try cases h) <;>
      (first
        | (refine ⟨_, ?_, .int _ _⟩; simp_all [eqGuard, binOp, Op.shift, Op.intArith, Op.intDiv, Op.intBits]; done)
        | (refine ⟨_, ?_, .bool _⟩; simp_all [eqGuard, binOp, Op.intCmp]; done)
        | (rename_i hb; refine ⟨_, ?_, .int _ _⟩; simp only [eqGuard, binOp, Op.shift, if_neg hb]; rfl))
  · cases hx; cases hy
    rename_i a b
    cases op <;> simp only [] at h <;> (try split at h) <;> (try cases h) <;>
      (first
        | (refine ⟨_, ?_, .bool _⟩; simp [eqGuard, binOp, Op.stringOp, bytes_toList, bytesLt]; done)
        | (rename_i hl; refine ⟨_, ?_, .str _⟩; rw [← string_add (P := P) w hl]; simp [eqGuard, binOp]; done))
  · cases hx; cases hy
    rename_i a b
    split at h <;> (try cases h) <;> (rename_i hu; refine ⟨_, ?_, .bool _⟩; simp [eqGuard, binOp, equal_bool w hu]; done)
  · cases hx; cases hy; exact sym_ok w O xo yo h
  · cases hx; cases hy; exact sym_ok w O xo yo h
  · cases hx; cases hy; exact sym_ok w O xo yo h
  · split at h
    · rename_i e hu
      cases hy
      split at h <;> (try cases h) <;> (cases hx <;> (try (simp at h; done)) <;> (try split at h) <;> (try split at h) <;> (try cases h) <;> (first | (exfalso; omega) | (simp_all; done) | (refine ⟨_, ?_, .bool _⟩; simp [eqGuard, binOp, equal_slice_nil w hu]; done)))
    · cases h
  · split at h
    · rename_i e hu
      cases hy
      split at h <;> (try cases h) <;> (cases hx; split at h <;> (try cases h) <;> (refine ⟨_, ?_, .bool _⟩; simp [eqGuard, binOp, equal_ptr_nil w hu]; done))
    · cases h
  · cases h

theorem un_ok {op : UnOp} {x v : AV} {c : Value} (h : aUn op x = some v) (hx : Rep X x c) : ∃ u, (Op.unary op c).run P w = .ok u w ∧ Rep X v u := by
  unfold aUn at h
  split at h <;> (try cases h) <;> cases hx
  · exact ⟨_, by simp [Op.unary, Op.intArith], .int _ _⟩
  · exact ⟨_, by simp [Op.unary], .bool _⟩
  · exact ⟨_, by simp [Op.unary, Op.intArith, Tm.val], .sym _ _⟩

theorem conv_ok {s d : TypeId} {x v : AV} {c : Value} (h : aConv P s d x = some v) (hx : Rep X x c) : ∃ u, (convert s d c).run P w = .ok u w ∧ Rep X v u := by
  unfold aConv at h
  split at h <;> (try cases h) <;> cases hx
  · rename_i sd k k' n hs hd
    exact ⟨_, by cases sd <;> simp [convert, run_und hs, run_und hd, Conv.intToInt], .int _ _⟩
  · rename_i sd k k' n hs hd
    exact ⟨_, by cases sd <;> simp [convert, run_und hs, run_und hd, Conv.intToInt, Tm.val], .sym _ _⟩
  · rename_i sd s' hs hd
    exact ⟨_, by cases sd <;> simp [convert, run_und hs, run_und hd], .str _⟩
end
end Go.Proofs.YtdnhhdplcminlaaGreatDoor.AI
