/- Whatever the two whole numbers, quotients are rounded down, with a remainder that fits: the law answers true, and its arguments read as they did. -/
import Derived.Test.YtdnhhdplcminlaaGreatDoorAiDivides
import Derived.Test.YtdnhhdplcminlaaGreatDoorAiHand
import Derived.Lay
set_option maxHeartbeats 400000
set_option linter.unusedVariables false
set_option linter.unusedSimpArgs false
set_option linter.unusedSectionVars false
namespace Go.Proofs.YtdnhhdplcminlaaGreatDoor
open Go.ChangeShapes Go.WideShapes Go.ChangeAt Go.RowKit AI

theorem Tryz.own : ownKnob Tryz.prog.godebug = none := by kernel_rfl
theorem Tryz.laidOut : laidOutB Tryz.prog = true := by kernel_rfl

/-- What the rows lay. -/
noncomputable def laidT : List (String × DataW Unit) := Rows.exprDividesRow.laid

theorem laid_met (os : Os) (args : Array Value) : laidMetH Tryz.prog laidT ((World.laidAll Tryz.prog os laidT).forCall (fun _ _ => 0) ⟨#[], args, []⟩).memory := by
  rw [MakeChecks.laidMetH_plain _ _ _ (by kernel_rfl)]
  exact laidMet_laidAll _ (by kernel_rfl) (by kernel_rfl)

theorem i64_range {n : Int} (h : (Lit.int .i64 n).wf = true) : -9223372036854775808 ≤ n ∧ n ≤ 9223372036854775807 := by
  have e1 : IntKind.i64.min = -9223372036854775808 := by decide
  have e2 : IntKind.i64.max = 9223372036854775807 := by decide
  simpa [Lit.wf, e1, e2] using h

theorem g_ops : Tryz.prog.globalNamed "docstore/expr.operators" = some 0 := by kernel_rfl
theorem g_first : Tryz.prog.globalNamed "unicode/utf8.first" = some 2 := by kernel_rfl
theorem g_ranges : Tryz.prog.globalNamed "unicode/utf8.acceptRanges" = some 3 := by kernel_rfl

theorem start_of {W : World} (o : BinOp → Tm → Tm → Option Bool) [Nu] (hL : laidMetH Tryz.prog laidT W) (hsh : W.ShapedOpen Tryz.prog) : HS Tryz.prog (cfgO o) noE lay0 (obOf Env.empty []) 0 W := by
  rw [MakeChecks.laidMetH_plain _ _ _ (by kernel_rfl)] at hL
  obtain ⟨ps, hv, _, _⟩ := hL
  refine HS.start (fun g cs h => ?_) (fun g h => ?_)
  · have hg : globT g = some cs := h
    unfold globT at hg
    split at hg <;> first | (cases hg; done) | skip
    · exact laid_glob hv (name := "docstore/expr.operators") (d := Rows.laid_docstore_expr_operators) (by simp [laidT, Rows.exprDividesRow]) g_ops (t := (Tryz.prog.globals[0]?.map (·.type)).getD 0) (by kernel_rfl) 8 (by rw [← hg]; kernel_rfl)
    · exact laid_glob hv (name := "unicode/utf8.first") (d := Rows.laid_unicode_utf8_first) (by simp [laidT, Rows.exprDividesRow]) g_first (t := (Tryz.prog.globals[2]?.map (·.type)).getD 0) (by kernel_rfl) 8 (by rw [← hg]; kernel_rfl)
    · exact laid_glob hv (name := "unicode/utf8.acceptRanges") (d := Rows.laid_unicode_utf8_acceptRanges) (by simp [laidT, Rows.exprDividesRow]) g_ranges (t := (Tryz.prog.globals[3]?.map (·.type)).getD 0) (by kernel_rfl) 8 (by rw [← hg]; kernel_rfl)
  · have hg : g = 1 := by
      have : intsT.contains g = true := h
      simpa [intsT] using this
    subst hg
    exact cell_of_shapedOpen_int (t := 3) (zero := #[.int .i64 0]) hsh (by decide +kernel) (by kernel_rfl) rfl (by kernel_rfl) (by kernel_rfl) Tryz.underlying3

set_option maxRecDepth 100000 in
theorem divides_lifted (os : Os) (started : os.Started) (H : Type) (enc : TypeId × Value → H) :
    ReturnsInHanded {} Tryz.checked os 8 .any (fun w args => (Rows.exprDividesSpec.pre enc Tryz.prog Tryz.f8 [] false w args ∧ laidMetH Tryz.prog laidT w) ∧ sizedMet enc Tryz.prog Tryz.f8 (OpenSpec.ofChange Rows.exprDividesSpec) false w args)
      (Rows.exprDividesSpec.post enc Tryz.prog Tryz.f8 false true false false) := by
  letI : Nu := nu2 0 0
  refine returnsIn_both (C := Tryz.checked) (X := fun w _ => laidMetH Tryz.prog laidT w) (fun _ _ _ hh h => h.of_heap hh) Tryz.own started (by kernel_rfl) Tryz.func8
    (ChangeSpec.witness_shaped (enc := enc) (C := Tryz.checked) (os := os) (X := fun w _ => laidMetH Tryz.prog laidT w) false (World.laidAll Tryz.prog os laidT) #[.int .i64 0, .int .i64 0] 8 (World.laidAll_os _ _ _) (World.shaped_of_ZipB (by kernel_rfl) (by kernel_rfl)) (by kernel_rfl) (by kernel_rfl) (by kernel_rfl) (laid_met os _)) ?_
  intro W base args ds gs before hval0 hW _ _ hL hsh _
  have hval : ∀ (j : Nat) t v, Tryz.f8.params[j]? = some t → args[j]? = some v → Value.okWide Tryz.prog W .any base t v := hval0
  have hW' := hW
  obtain ⟨p, q, hA0, hV, rfl, hfz, hnd⟩ := hW
  have hA : DataW.TrodAll enc Tryz.prog W 0 (fun _ => true) true Tryz.f8.params.toList args.toList ds p := hA0
  rw [Tryz.params8] at hA hval
  obtain ⟨c0, c1, d0, d1, p0, p1, rfl, rfl, rfl, h0, h1⟩ := trodAll_two hA
  obtain ⟨rfl, rfl⟩ := trodVars_none hV
  obtain ⟨a, rfl, rfl, rfl, wa⟩ := open_int Tryz.underlying3 (hval 0 3 c0 rfl rfl) h0
  obtain ⟨b, rfl, rfl, rfl, wb⟩ := open_int Tryz.underlying3 (hval 1 3 c1 rfl rfl) h1
  have ra : -9223372036854775808 ≤ a ∧ a ≤ 9223372036854775807 := i64_range wa
  have rb : -9223372036854775808 ≤ b ∧ b ≤ 9223372036854775807 := i64_range wb
  obtain ⟨l, O, hd⟩ := divides_all a b ra rb
  have hp := @plain_sound (nu2 a b) Tryz.prog (cfgO (AI.look l)) (@cfg_ok (nu2 a b) _ O) 20000 8 [.sym .i64 v0, .sym .i64 v1] [] (.bool true) (by kernel_rfl) hd
  have hs := @start_of W (AI.look l) (nu2 a b) hL hsh
  refine (hp.2 noE lay0 (obOf Env.empty []) 0 W [.int .i64 a, .int .i64 b] hs (@RepL.cons (nu2 a b) _ _ _ _ _ (@Rep.sym (nu2 a b) _ .i64 v0) (@RepL.cons (nu2 a b) _ _ _ _ _ (@Rep.sym (nu2 a b) _ .i64 v1) (@RepL.nil (nu2 a b) _)))).mono fun e W' ⟨c, he, hfr, hr⟩ => ?_
  cases hr
  refine ⟨_, he, ?_⟩
  exact post_true (P := Tryz.prog) (tb := 4) Tryz.laidOut Tryz.underlying4 (by kernel_rfl) (by rw [Tryz.params8]; intro t ht; simp only [List.mem_cons, List.not_mem_nil, or_false, or_self] at ht; subst ht; exact ⟨by kernel_rfl, by decide +kernel⟩) rfl hW' rfl hfr

theorem divides_holds : Rows.ExprDividesSaid :=
  OpenClaim.holds_of_wide 8 Tryz.f8 rfl rfl rfl rfl rfl rfl rfl ⟨rfl, rfl, rfl, rfl, rfl⟩ rfl rfl rfl rfl rfl (by kernel_rfl) Tryz.func8 (by kernel_rfl)
    (of_decide_eq_true (by kernel_rfl)) (by unfold Func.isWrapper; first | (rw [if_pos (by decide +kernel)]; kernel_rfl) | (rw [if_neg (by decide +kernel)]; exact ⟨rfl, rfl⟩))
    (fun os started H enc _ => divides_lifted os started H enc)
#print axioms divides_holds
end Go.Proofs.YtdnhhdplcminlaaGreatDoor
