/- From a law over an expression or a value to its row: what is common. -/
import Derived.Test.YtdnhhdplcminlaaGreatDoorAiClone3
import Derived.Test.YtdnhhdplcminlaaGreatDoorAiHand
import Derived.Test.YtdnhhdplcminlaaGreatDoorAiTyped2
import Derived.Deep.DeepHandedRow
import Derived.Lay
set_option maxHeartbeats 1000000
set_option maxRecDepth 100000
set_option linter.unusedVariables false
set_option linter.unusedSimpArgs false
set_option linter.unusedSectionVars false
namespace Go.Proofs.YtdnhhdplcminlaaGreatDoor
open Go.ChangeShapes Go.WideShapes Go.ChangeAt Go.RowKit AI

theorem Tryz.own : ownKnob Tryz.prog.godebug = none := by kernel_rfl
theorem Tryz.laidOut : laidOutB Tryz.prog = true := by kernel_rfl

/-- What the rows lay. -/
noncomputable def laidT : List (String × DataW Unit) := Rows.exprBuildsUptoRow.laid
noncomputable def lawWorld (os : Os) : World := World.laidAll Tryz.prog os laidT
theorem laid_met (os : Os) (args : Array Value) : laidMetH Tryz.prog laidT ((lawWorld os).forCall (fun _ _ => 0) ⟨#[], args, []⟩).memory := by
  rw [MakeChecks.laidMetH_plain _ _ _ (by kernel_rfl)]
  exact laidMet_laidAll _ (by kernel_rfl) (by kernel_rfl)

theorem g_ops : Tryz.prog.globalNamed "docstore/expr.operators" = some 0 := by kernel_rfl
theorem g_first : Tryz.prog.globalNamed "unicode/utf8.first" = some 2 := by kernel_rfl
theorem g_ranges : Tryz.prog.globalNamed "unicode/utf8.acceptRanges" = some 3 := by kernel_rfl

theorem start_of {W : World} [Nu] (hL : laidMetH Tryz.prog laidT W) (hsh : W.ShapedOpen Tryz.prog) : HS Tryz.prog cfg noE lay0 (obOf Env.empty []) 0 W := by
  rw [MakeChecks.laidMetH_plain _ _ _ (by kernel_rfl)] at hL
  obtain ⟨ps, hv, _, _⟩ := hL
  refine HS.start (fun g cs h => ?_) (fun g h => ?_)
  · have hg : globT g = some cs := h
    unfold globT at hg
    split at hg <;> first | (cases hg; done) | skip
    · exact laid_glob hv (name := "docstore/expr.operators") (d := Rows.laid_docstore_expr_operators) (by simp [laidT, Rows.exprBuildsUptoRow]) g_ops (t := (Tryz.prog.globals[0]?.map (·.type)).getD 0) (by kernel_rfl) 8 (by rw [← hg]; kernel_rfl)
    · exact laid_glob hv (name := "unicode/utf8.first") (d := Rows.laid_unicode_utf8_first) (by simp [laidT, Rows.exprBuildsUptoRow]) g_first (t := (Tryz.prog.globals[2]?.map (·.type)).getD 0) (by kernel_rfl) 8 (by rw [← hg]; kernel_rfl)
    · exact laid_glob hv (name := "unicode/utf8.acceptRanges") (d := Rows.laid_unicode_utf8_acceptRanges) (by simp [laidT, Rows.exprBuildsUptoRow]) g_ranges (t := (Tryz.prog.globals[3]?.map (·.type)).getD 0) (by kernel_rfl) 8 (by rw [← hg]; kernel_rfl)
  · have hg : g = 1 := by
      have : intsT.contains g = true := h
      simpa [intsT] using this
    subst hg
    exact cell_of_shapedOpen_int (t := 3) (zero := #[.int .i64 0]) hsh (by decide +kernel) (by kernel_rfl) rfl (by kernel_rfl) (by kernel_rfl) Tryz.underlying3

/-- A struct's value of many cells. -/
theorem rep_struct {X : RC} [Nu] {v : Value} {cs : List AV} (h : RepC X cs v.cells.toList) (hl : 2 ≤ cs.length) : Rep X (.agg cs) v := by
  have h1 := h.1
  cases v with
  | agg a =>
    have : (Value.agg a).cells = a := rfl
    rw [this] at h
    have := Rep.agg cs a.toList h.1 h.2.1 h.2.2
    simpa using this
  | _ => simp [Value.cells] at h1; omega

/-- What a law's function that says true of plain data comes to. -/
theorem law_true {H : Type} {enc : TypeId × Value → H} {W : World} [Nu] {f : FuncId} {fuel : Nat} {t : TypeId} {v : Value} {d : DataW H} {ps : List MemPlace} {cs : List AV}
    (hL : laidMetH Tryz.prog laidT W) (hsh : W.ShapedOpen Tryz.prog) (ht : DataW.trod enc Tryz.prog W 0 (fun _ => true) true fuel t v.cells.toList = some (d, ps)) (ha : Avs fuel t d cs) (h2 : 2 ≤ cs.length)
    (hap : apartF cfg f = true) (hc : CallT f [.agg cs] [] (.bool true) []) : Calls Tryz.prog f #[v] W fun e W' => e = .returned (.bool true) ∧ Fr (fun _ => False) W W' := by
  obtain ⟨m, hm⟩ := hc
  have hp := plain_sound cfg_ok hap (hm m (Nat.le_refl _))
  have hs := start_of hL hsh
  have hr : RepC (rc0 W) cs v.cells.toList := trod_rep (fun a v ha hv => rc0_S ha hv) fuel fuel t _ d ps cs ht (ha fuel (Nat.le_refl _))
  refine (hp.2 noE lay0 (obOf Env.empty []) 0 W [v] hs (arg_one (rep_struct hr h2))).mono fun e W' ⟨c, he, hfr, hrep⟩ => ?_
  cases hrep
  exact ⟨he, hfr⟩
end Go.Proofs.YtdnhhdplcminlaaGreatDoor
