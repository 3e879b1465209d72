/- The tables that the laws use fit the program. -/
import Derived.Test.YtdnhhdplcminlaaGreatDoorAiP2
import Derived.Test.YtdnhhdplcminlaaGreatDoorAiClone2
set_option maxHeartbeats 1000000
set_option maxRecDepth 100000
set_option linter.unusedVariables false
set_option linter.unusedSimpArgs false
set_option linter.unusedSectionVars false
namespace Go.Proofs.YtdnhhdplcminlaaGreatDoor.AI
open Go
theorem app_new {rows : Bool} {t el sz : Nat} (T : rowB t el sz = true) {h : Heap} {n : Nat} {cs : List AV} (hy : cs.length = (n + 1) * sz) (hb : n + 1 ≤ maxN) :
    aAppend Tryz.prog rows #[t, t] h (.sl true 0 []) (.sl false (n + 1) cs) = some (grown rows h el (0 + (n + 1)) ([] ++ cs)) := by
  unfold rowB at T
  split at T <;> try cases T
  rename_i e i z hu hi hz
  simp only [Bool.and_eq_true, Bool.not_eq_true'] at T
  obtain ⟨h1, h2, h3, h4, h5, h6, h7⟩ := T
  have h1 : e = el := Nat.eq_of_beq_eq_true h1
  have h2 : i.size = sz := Nat.eq_of_beq_eq_true h2
  have h7 : (cellsOf z).length = sz := Nat.eq_of_beq_eq_true h7
  have h5 : i.bytes ≤ 65536 := Nat.le_of_ble_eq_true h5
  have h3 : sz ≠ 0 := fun h0 => by subst h0; simp at h3
  have h4 : i.bytes ≠ 0 := fun h0 => by rw [h0] at h4; simp at h4
  subst h1
  have hx : srcCells h (.sl false (n + 1) cs) = some (n + 1, cs) := rfl
  have hcond : (decide (i.size = 0) || decide (i.bytes = 0) || decide (65536 < i.bytes) || decide (cs.length ≠ (n + 1) * i.size) || !solid z || decide ((cellsOf z).length ≠ i.size)) = false := by
    simp only [h2, h6, h7, hy, ne_eq, not_true_eq_false, decide_false, Bool.not_true, Bool.or_false, Bool.or_eq_false_iff, decide_eq_false_iff_not]
    exact ⟨⟨h3, h4⟩, by omega⟩
  have hcond2 : (!true || decide (maxN < 0 + (n + 1)) || decide (([] : List AV).length ≠ 0 * i.size)) = false := by
    simp only [Bool.not_true, Bool.false_or, Bool.or_eq_false_iff, decide_eq_false_iff_not, List.length_nil, Nat.zero_mul, ne_eq, not_true_eq_false, decide_false, and_true]
    exact Nat.not_lt.2 (by omega)
  unfold aAppend
  simp only [ne_eq, not_true_eq_false, if_false, hu, hi, hz, hx]
  simp only [ne_eq] at hcond hcond2
  rw [hcond]
  simp only [Bool.false_eq_true, if_false, Nat.succ_ne_zero, hcond2]

theorem strs_of : ∀ {cs : List AV} {l : List Str}, strsOf cs = some l → cs = encS l
  | [], l, h => by
    simp only [strsOf, Option.some.injEq] at h
    subst h; rfl
  | v :: r, l, h => by
    cases v <;> simp only [strsOf] at h <;> try cases h
    split at h <;> try cases h
    rename_i l' hl
    rw [strs_of hl]
    rfl

variable [Nu]
def noO : BinOp → Tm → Tm → Option Bool := fun _ _ _ => none

theorem cfgA_good : goodT.all (fun f => fnOk Tryz.prog cfgA f) = true := by kernel_rfl
theorem cfgA_ok : CfgOk Tryz.prog cfgA := by
  have O : OraOk (cfgB noO) := fun op a b r h => by cases h
  have B := cfgB_ok O
  refine ⟨fun f h => ?_, B.glob, B.mixed, (fun op a b r h => by cases h), (fun g p args v hp h => PlainCall.swap (G := cfgB noO) (G' := cfgA) rfl rfl (B.prim g p args v hp h)), (fun g p args h v h' hp => by cases hp)⟩
  have hm : f ∈ goodT := by
    have h : goodT.contains f = true := h
    simpa using h
  exact List.all_eq_true.1 cfgA_good f hm

theorem cfgO_good (o : BinOp → Tm → Tm → Option Bool) : goodT.all (fun f => fnOk Tryz.prog (cfgO o) f) = true := by kernel_rfl

theorem awake_plain : PlainCall Tryz.prog cfgA 10 [] (.bool true) := plain_sound cfgA_ok (by kernel_rfl) awake_run

theorem clone67 {o : BinOp → Tm → Tm → Option Bool} (B : CfgOk Tryz.prog (cfgB o)) {args : List AV} {h h' : Heap} {v : AV} (he : hCloneV 5 args h = some (v, h')) : HeapCall Tryz.prog (cfgB o) 67 args h v h' := by
  refine clone_heap (sz := 5) (fun h => run_sound B (nil67 o h)) (fun h => run_sound B (se67 o h)) (fun n cs h h1 h2 => ?_) he
  have hb : BodyP Tryz.prog (cfgB o) ⟨false, 0⟩ 67 [.sl false (n + 1) cs] h (fun w k => w = .ms h.length 0 (n + 1) cs.length ∧ k = h ++ [some (.arr cs)]) := by
    rw [n67]
    refine ⟨_, _, _, _, _, ?_, rfl, rfl⟩
    rw [app_new (t := 23) (el := 26) (sz := 5) (by kernel_rfl) h1 h2]
    simp [grown]
  have hc : Call Tryz.prog (cfgB o) 67 [.sl false (n + 1) cs] h (.ms h.length 0 (n + 1) cs.length) (h ++ [some (.arr cs)]) := call_is (by kernel_rfl) (by kernel_rfl) rfl hb
  obtain ⟨m, hm⟩ := hc
  exact (caller_sound B (exec_sound B m)).1 67 _ _ _ _ (by kernel_rfl) (hm m (Nat.le_refl _))
theorem clone68 {o : BinOp → Tm → Tm → Option Bool} (B : CfgOk Tryz.prog (cfgB o)) {args : List AV} {h h' : Heap} {v : AV} (he : hCloneV 6 args h = some (v, h')) : HeapCall Tryz.prog (cfgB o) 68 args h v h' := by
  refine clone_heap (sz := 6) (fun h => run_sound B (nil68 o h)) (fun h => run_sound B (se68 o h)) (fun n cs h h1 h2 => ?_) he
  have hb : BodyP Tryz.prog (cfgB o) ⟨false, 0⟩ 68 [.sl false (n + 1) cs] h (fun w k => w = .ms h.length 0 (n + 1) cs.length ∧ k = h ++ [some (.arr cs)]) := by
    rw [n68]
    refine ⟨_, _, _, _, _, ?_, rfl, rfl⟩
    rw [app_new (t := 24) (el := 54) (sz := 6) (by kernel_rfl) h1 h2]
    simp [grown]
  have hc : Call Tryz.prog (cfgB o) 68 [.sl false (n + 1) cs] h (.ms h.length 0 (n + 1) cs.length) (h ++ [some (.arr cs)]) := call_is (by kernel_rfl) (by kernel_rfl) rfl hb
  obtain ⟨m, hm⟩ := hc
  exact (caller_sound B (exec_sound B m)).1 68 _ _ _ _ (by kernel_rfl) (hm m (Nat.le_refl _))
/-- Data without marks. -/
theorem clone32 {o : BinOp → Tm → Tm → Option Bool} (B : CfgOk Tryz.prog (cfgB o)) {args : List AV} {v : AV} (he : pCloneV 1 args = some v) : PlainCall Tryz.prog (cfgB o) 32 args v := by
  have p0 : PlainCall Tryz.prog (cfgB o) 32 [.nilsl] .nilsl := PlainCall.swap (G := cfgA) (G' := cfgB o) rfl rfl (plain_sound cfgA_ok (by kernel_rfl) nil32)
  have p1 : PlainCall Tryz.prog (cfgB o) 32 [.se] (.sl true 0 []) := PlainCall.swap (G := cfgA) (G' := cfgB o) rfl rfl (plain_sound cfgA_ok (by kernel_rfl) se32)
  have hcn : ∀ (n : Nat) (cs : List AV), Cn cs → cs.length = (n + 1) * 1 → n + 1 ≤ maxN → PlainCall Tryz.prog (cfgB o) 32 [.sl false (n + 1) cs] (.sl false (n + 1) cs) := by
    intro n cs hcs h1 h2
    have hb : BodyP Tryz.prog (cfgB o) ⟨false, 0⟩ 32 [.sl false (n + 1) cs] [] (retE (· = .sl false (n + 1) cs)) := by
      rw [n32]
      refine ⟨fun h => absurd h (Nat.succ_ne_zero n), fun _ => ⟨[some (.tok 9 (0 + (n + 1)) ([] ++ cs).length)], 0, ?_, ?_⟩⟩
      · rw [app_new (t := 22) (el := 9) (sz := 1) (by kernel_rfl) h1 h2]
        simp only [grown, Bool.false_eq_true, if_false]
        rfl
      · refine ⟨_, er_tk (by simpa using hcs), ?_⟩
        simp
    have hc : Call Tryz.prog (cfgB o) 32 [.sl false (n + 1) cs] [] (.sl false (n + 1) cs) [] := pure_is (by kernel_rfl) (by kernel_rfl) rfl (by
      have e : (cfgB o).nk 32 = false := by kernel_rfl
      rw [e]
      have : Cn [.sl false (n + 1) cs] := by simpa using hcs
      exact this) hb
    obtain ⟨m, hm⟩ := hc
    exact plain_sound B (by kernel_rfl) (hm m (Nat.le_refl _))
  unfold pCloneV at he
  split at he
  · rename_i fl n cs
    by_cases hn : n = 0
    · rw [if_pos hn] at he
      simp only [Option.some.injEq] at he
      obtain rfl := he
      refine ⟨p0.1, fun E L ob len w vs H hr => ?_⟩
      obtain ⟨c, rfl, hc⟩ := one_arg hr
      rcases sl_cases hc with ⟨_, hc | hc⟩ | hp
      · exact (p0.res (v' := .sl false 0 []) (fun X c h => by cases h; exact .slN false)).2 E L ob len w _ H (arg_one hc)
      · exact (p1.res (v' := .sl false 0 []) (fun X c h => sl_weak h)).2 E L ob len w _ H (arg_one hc)
      · omega
    · rw [if_neg hn] at he
      split at he <;> try cases he
      rename_i hcond
      obtain ⟨k, rfl⟩ : ∃ k, n = k + 1 := ⟨n - 1, by omega⟩
      refine ⟨p0.1, fun E L ob len w vs H hr => ?_⟩
      obtain ⟨c, rfl, hc⟩ := one_arg hr
      have hcs : Cn cs := by
        obtain ⟨l, hl⟩ := Option.isSome_iff_exists.1 hcond.2.2
        rw [strs_of hl]
        exact Cn_encS l
      exact (hcn k cs hcs hcond.1 hcond.2.1).2 E L ob len w _ H (arg_one (sl_weak hc))
  · cases he

theorem cfgO_ok {o : BinOp → Tm → Tm → Option Bool} (O : OraOk (cfgO o)) : CfgOk Tryz.prog (cfgO o) := by
  have O' : OraOk (cfgB o) := O
  have B := cfgB_ok O'
  refine ⟨fun f h => ?_, B.glob, B.mixed, O, fun g p args v hp h => ?_, fun g p args h v h' hp he => ?_⟩
  · have hm : f ∈ goodT := by
      have h : goodT.contains f = true := h
      simpa using h
    exact List.all_eq_true.1 (cfgO_good o) f hm
  · have hl : primT2.lookup g = some p := hp
    by_cases h32 : g = 32
    · subst h32
      have : p = pCloneV 1 := by simpa [primT2, primT, List.lookup] using hl.symm
      subst this
      exact PlainCall.swap (G := cfgB o) (G' := cfgO o) rfl rfl (clone32 B h)
    · by_cases h10 : g = 10
      · subst h10
        have : p = pTrue := by simpa [primT2, primT, List.lookup] using hl.symm
        subst this
        unfold pTrue at h
        split at h
        · simp only [Option.some.injEq] at h
          subst h
          exact PlainCall.swap (G := cfgA) (G' := cfgO o) rfl rfl awake_plain
        · cases h
      · have hl' : primT.lookup g = some p := by
          have a1 : (g == 32) = false := by simpa using h32
          have a2 : (g == 10) = false := by simpa using h10
          simpa [primT2, primT, List.lookup, a1, a2] using hl
        exact PlainCall.swap (G := cfgB o) (G' := cfgO o) rfl rfl (B.prim g p args v hl' h)
  · have hl : hprimT.lookup g = some p := hp
    by_cases h67 : g = 67
    · subst h67
      have : p = hCloneV 5 := by simpa [hprimT, List.lookup] using hl.symm
      subst this
      exact HeapCall.swap (G := cfgB o) (G' := cfgO o) rfl rfl (clone67 B he)
    · by_cases h68 : g = 68
      · subst h68
        have : p = hCloneV 6 := by simpa [hprimT, List.lookup] using hl.symm
        subst this
        exact HeapCall.swap (G := cfgB o) (G' := cfgO o) rfl rfl (clone68 B he)
      · exfalso
        have a1 : (g == 67) = false := by simpa using h67
        have a2 : (g == 68) = false := by simpa using h68
        simp [hprimT, List.lookup, a1, a2] at hl
theorem cfg_ok : CfgOk Tryz.prog cfg := cfgO_ok (o := fun _ _ _ => none) (fun op a b r h => by cases h)
end Go.Proofs.YtdnhhdplcminlaaGreatDoor.AI
