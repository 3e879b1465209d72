/- Quotients are rounded down, with a remainder that fits. -/
import Derived.Test.YtdnhhdplcminlaaGreatDoorAiDivRun
set_option maxHeartbeats 400000
set_option linter.unusedVariables false
set_option linter.unusedSimpArgs false
set_option linter.unusedSectionVars false
namespace Go.Proofs.YtdnhhdplcminlaaGreatDoor.AI

theorem wrap_mod (n : Int) : IntKind.i64.wrap n = (n + 9223372036854775808) % 18446744073709551616 - 9223372036854775808 := by
  have e1 : (2 : Int) ^ 64 = 18446744073709551616 := by decide
  have e2 : (2 : Int) ^ (64 - 1) = 9223372036854775808 := by decide
  simp only [IntKind.wrap, IntKind.bits, IntKind.signed, Bool.true_and, decide_eq_true_eq, e1, e2]
  split <;> omega

theorem wrap_id {n : Int} (h : -9223372036854775808 ≤ n ∧ n ≤ 9223372036854775807) : IntKind.i64.wrap n = n := by
  rw [wrap_mod]; omega

theorem wrap_add_left (x y : Int) : IntKind.i64.wrap (IntKind.i64.wrap x + y) = IntKind.i64.wrap (x + y) := by
  simp only [wrap_mod]; omega

/-- The two numbers. -/
@[reducible] def nu2 (a b : Int) : Nu := ⟨fun i => if i = 0 then a else b⟩

theorem quo_range {a b : Int} (ha : -9223372036854775808 ≤ a ∧ a ≤ 9223372036854775807) (hb0 : b ≠ 0) (hb1 : b ≠ -1) : -9223372036854775808 ≤ a.tdiv b ∧ a.tdiv b ≤ 9223372036854775807 := by
  have h1 : (a.tdiv b).natAbs ≤ a.natAbs := by
    rw [Int.natAbs_tdiv]
    exact Nat.div_le_self _ _
  by_cases hm : a = -9223372036854775808
  · have h2 : (a.tdiv b).natAbs = a.natAbs / b.natAbs := Int.natAbs_tdiv a b
    by_cases hb : b = 1
    · subst hb
      rw [Int.tdiv_one]
      omega
    · have hb2 : 2 ≤ b.natAbs := by omega
      have h3 : a.natAbs / b.natAbs ≤ a.natAbs / 2 := Nat.div_le_div_left hb2 (by omega)
      omega
  · omega

theorem div_mod {a b : Int} : a.tdiv b * b + a.tmod b = a := by
  rw [Int.mul_comm]
  exact Int.mul_tdiv_add_tmod a b

theorem divides_all (a b : Int) (ha : -9223372036854775808 ≤ a ∧ a ≤ 9223372036854775807) (hb : -9223372036854775808 ≤ b ∧ b ≤ 9223372036854775807) :
    ∃ l, @OraOk (nu2 a b) (cfgO (look l)) ∧ divides l = some (.bool true, []) := by
  letI := nu2 a b
  have e0 : v0.val = a := rfl
  have e1 : v1.val = b := rfl
  have el : ∀ n, (Tm.lit n).val = n := fun _ => rfl
  by_cases h0 : b = 0
  · refine ⟨caseA, look_ok _ (fun e he => ?_), divides_A⟩
    simp only [caseA, List.mem_singleton] at he
    subst he
    simp [cmpI, e1, el, h0]
  by_cases h1 : b = -1
  · refine ⟨caseB, look_ok _ (fun e he => ?_), divides_B⟩
    have hback : (back (.neg .i64 v0) (.lit 0)).val = a := by
      show IntKind.i64.wrap (IntKind.i64.wrap (IntKind.i64.wrap (0 - a) * b) + 0) = a
      subst h1
      simp only [wrap_mod]
      omega
    simp only [caseB, List.mem_cons, List.not_mem_nil, or_false] at he
    rcases he with rfl | rfl | rfl | rfl | rfl <;> simp only [cmpI, hback, e0, e1, el] <;> simp <;> omega
  · have hq := quo_range ha h0 h1
    have hqv : tq.val = a.tdiv b := by
      show IntKind.i64.wrap (a.tdiv b) = _
      exact wrap_id hq
    have hrv : tr.val = a.tmod b := rfl
    have hdm : a.tdiv b * b + a.tmod b = a := div_mod
    have hrlt : (a.tmod b).natAbs < b.natAbs := by
      rw [Int.natAbs_tmod]
      exact Nat.mod_lt _ (by omega)
    have hback : (back tq tr).val = a := by
      show IntKind.i64.wrap (IntKind.i64.wrap (tq.val * b) + tr.val) = a
      rw [wrap_add_left, hqv, hrv, hdm]
      exact wrap_id ha
    generalize hr : a.tmod b = r at hrv hdm hrlt
    by_cases hr0 : r = 0
    · by_cases hn : b < 0
      · refine ⟨caseC true, look_ok _ (fun e he => ?_), divides_C1⟩
        simp only [caseC, List.mem_cons, List.not_mem_nil, or_false] at he
        rcases he with rfl | rfl | rfl | rfl | rfl | rfl | rfl <;> simp only [cmpI, hback, hrv, e0, e1, el] <;> simp <;> omega
      · refine ⟨caseC false, look_ok _ (fun e he => ?_), divides_C0⟩
        simp only [caseC, List.mem_cons, List.not_mem_nil, or_false] at he
        rcases he with rfl | rfl | rfl | rfl | rfl | rfl | rfl <;> simp only [cmpI, hback, hrv, e0, e1, el] <;> simp <;> omega
    · have hr1 : (tr1.val) = r + b ∨ ((r < 0) = (b < 0)) := by
        by_cases hs : (r < 0) = (b < 0)
        · exact .inr hs
        · left
          show IntKind.i64.wrap (tr.val + b) = r + b
          rw [hrv]
          refine wrap_id ?_
          by_cases h2 : r < 0 <;> by_cases h3 : b < 0 <;> simp [h2, h3] at hs <;> omega
      have hback1 : (back tq1 tr1).val = a := by
        show IntKind.i64.wrap (IntKind.i64.wrap (IntKind.i64.wrap (tq.val - 1) * b) + IntKind.i64.wrap (tr.val + b)) = a
        rw [hqv, hrv]
        have hmul : ∀ x : Int, IntKind.i64.wrap (IntKind.i64.wrap x * b) = IntKind.i64.wrap (x * b) := by
          intro x
          simp only [wrap_mod]
          have hx : (x + 9223372036854775808) % 18446744073709551616 = x + 9223372036854775808 - 18446744073709551616 * ((x + 9223372036854775808) / 18446744073709551616) := by omega
          rw [hx]
          generalize (x + 9223372036854775808) / 18446744073709551616 = k
          have : (x + 9223372036854775808 - 18446744073709551616 * k - 9223372036854775808) * b = x * b - 18446744073709551616 * (k * b) := by
            rw [show x + 9223372036854775808 - 18446744073709551616 * k - 9223372036854775808 = x - 18446744073709551616 * k by omega, Int.sub_mul, Int.mul_assoc]
          rw [this]
          omega
        rw [hmul, wrap_add_left]
        have h4 : (a.tdiv b - 1) * b = a - r - b := by rw [Int.sub_mul, Int.one_mul]; omega
        rw [h4]
        have : ∀ x y : Int, IntKind.i64.wrap (x + IntKind.i64.wrap y) = IntKind.i64.wrap (x + y) := fun x y => by simp only [wrap_mod]; omega
        rw [this, show a - r - b + (r + b) = a by omega]
        exact wrap_id ha
      by_cases hs : (r < 0) = (b < 0)
      · by_cases hn : b < 0
        · have hrn : r < 0 := by rw [hs]; exact hn
          refine ⟨caseD true, look_ok _ (fun e he => ?_), divides_D1⟩
          simp only [caseD, List.mem_cons, List.not_mem_nil, or_false] at he
          rcases he with rfl | rfl | rfl | rfl | rfl | rfl | rfl | rfl <;> simp only [cmpI, hback, hrv, e0, e1, el] <;> simp <;> omega
        · have hrn : ¬ r < 0 := by rw [hs]; exact hn
          refine ⟨caseD false, look_ok _ (fun e he => ?_), divides_D0⟩
          simp only [caseD, List.mem_cons, List.not_mem_nil, or_false] at he
          rcases he with rfl | rfl | rfl | rfl | rfl | rfl | rfl | rfl <;> simp only [cmpI, hback, hrv, e0, e1, el] <;> simp <;> omega
      · have hr2 : tr1.val = r + b := hr1.resolve_right hs
        by_cases hn : b < 0
        · have hrn : ¬ r < 0 := fun h => hs (by simp [h, hn])
          refine ⟨caseE true, look_ok _ (fun e he => ?_), divides_E1⟩
          simp only [caseE, List.mem_cons, List.not_mem_nil, or_false] at he
          rcases he with rfl | rfl | rfl | rfl | rfl | rfl | rfl | rfl | rfl <;> simp only [cmpI, hback1, hr2, hrv, e0, e1, el] <;> simp <;> omega
        · have hrn : r < 0 := Classical.byContradiction fun h => hs (by simp [h, hn])
          refine ⟨caseE false, look_ok _ (fun e he => ?_), divides_E0⟩
          simp only [caseE, List.mem_cons, List.not_mem_nil, or_false] at he
          rcases he with rfl | rfl | rfl | rfl | rfl | rfl | rfl | rfl | rfl <;> simp only [cmpI, hback1, hr2, hrv, e0, e1, el] <;> simp <;> omega
end Go.Proofs.YtdnhhdplcminlaaGreatDoor.AI
