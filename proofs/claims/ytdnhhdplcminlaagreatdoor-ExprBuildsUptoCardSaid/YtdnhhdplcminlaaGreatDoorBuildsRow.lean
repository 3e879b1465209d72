/- Whatever the expression (of bulk at most 2^20), both builds agree: the law answers true, and its argument reads as it did. -/
import Derived.Test.YtdnhhdplcminlaaGreatDoorAiP3
import Derived.Test.YtdnhhdplcminlaaGreatDoorAiRow
set_option maxHeartbeats 1000000
set_option maxRecDepth 100000
set_option linter.unusedVariables false
set_option linter.unusedSimpArgs false
set_option linter.unusedSectionVars false
namespace Go.Proofs.YtdnhhdplcminlaaGreatDoor
open Go.ChangeShapes Go.WideShapes Go.ChangeAt Go.RowKit AI

theorem AI.awake_told : AwakeTold := by
  refine Evt.of fun m => ?_
  have hp : cfg.prim 10 = some pTrue := by kernel_rfl
  simp only [callerOf, hp, eraseL]
  rfl

def zeroExpr : Value := .agg #[.int .i64 0, .slice none 0 0, .string ⟨#[]⟩, .slice none 0 0, .int .i64 0, .int .i64 0, .string ⟨#[]⟩, .slice none 0 0, .slice none 0 0, .int .i64 0, .slice none 0 0]

theorem reads5 (os : Os) {H : Type} (enc : TypeId × Value → H) : ∃ places, DataW.whole enc Tryz.prog ((lawWorld os).forCall (fun _ _ => 0) ⟨#[], #[zeroExpr], []⟩).memory Tryz.f5.params.toList Rows.exprBuildsSpec.vars false #[zeroExpr].toList 8 =
    some ([.agg [.lit (.int .i64 0), .nil, .lit (.string []), .nil, .agg [.lit (.int .i64 0), .lit (.int .i64 0), .lit (.string []), .nil, .nil], .lit (.int .i64 0), .nil]], [], places) :=
  ⟨[], by kernel_rfl⟩

theorem builds_lifted (os : Os) (started : os.Started) (H : Type) (enc : TypeId × Value → H) (F : Stop.Interp) :
    ReturnsInHanded {} Tryz.checked os 5 .any ((Rows.OpenSpec.upto Rows.exprBuildsSpec).preRow enc Tryz.prog Tryz.f5 Rows.exprBuildsUptoRow.domain false Rows.exprBuildsUptoRow.laid) (((Rows.OpenSpec.upto Rows.exprBuildsSpec).at F).post enc Tryz.prog Tryz.f5 false true false false) := by
  letI : Nu := ⟨fun _ => 0⟩
  obtain ⟨places, hx⟩ := reads5 os enc
  refine returnsInHanded_of_row (C := Tryz.checked) (s := Rows.OpenSpec.upto Rows.exprBuildsSpec) Tryz.own started (by kernel_rfl) Tryz.func5
    (witness_row_at (enc := enc) (C := Tryz.checked) false (lawWorld os) #[zeroExpr] (World.laidAll_os _ _ _) (by kernel_rfl) (by kernel_rfl) (by kernel_rfl)
      (OpenSpec.preRow_of_cond 8 hx (by kernel_rfl) (fun k hk => by cases hk; kernel_rfl) (by kernel_rfl) (laid_met os _))) ?_
  intro W base args ds gs before hval hW _ hcond _ hL hsh _
  have hW' := hW
  obtain ⟨p, q, hA0, hV, rfl, hfz, hnd⟩ := hW
  have hA : DataW.TrodAll enc Tryz.prog W 0 (fun _ => true) true Tryz.f5.params.toList args.toList ds p := hA0
  rw [Tryz.params5] at hA
  obtain ⟨v, d, rfl, rfl, ht⟩ := trodAll_one hA
  obtain ⟨rfl, rfl⟩ := trodVars_none hV
  obtain ⟨fuel, ht⟩ := ht
  obtain ⟨e, he, hsm⟩ := ty_E_all fuel _ _ _ ht
  have hb : Rows.uptoBulk d ≤ 1048576 := by
    have h := of_decide_eq_true (hcond _ rfl)
    simp only [List.append_nil, Rows.uptoBulkAll] at h
    omega
  have hE := hsm (by omega)
  rw [encE_eq] at he
  refine (law_true hL hsh ht he (by simp) (by kernel_rfl) (c5 valid_told utf8_told awake_told e hE)).mono fun ex W' ⟨hex, hfr⟩ => ?_
  refine ⟨_, hex, ?_⟩
  exact post_true (P := Tryz.prog) (tb := 4) Tryz.laidOut Tryz.underlying4 (by kernel_rfl) (by rw [Tryz.params5]; intro t ht; simp only [List.mem_cons, List.not_mem_nil, or_false] at ht; subst ht; exact ⟨by kernel_rfl, by decide +kernel⟩) rfl hW' rfl hfr

theorem builds_holds : Rows.ExprBuildsUptoSaid :=
  OpenClaim.holds_of_cond 5 Tryz.f5 rfl rfl rfl rfl rfl rfl rfl ⟨rfl, rfl, rfl, rfl, rfl⟩ rfl rfl rfl rfl rfl (by kernel_rfl) Tryz.func5 (by kernel_rfl)
    (of_decide_eq_true (by kernel_rfl)) (by unfold Func.isWrapper; first | (rw [if_pos (by decide +kernel)]; kernel_rfl) | (rw [if_neg (by decide +kernel)]; exact ⟨rfl, rfl⟩))
    (fun os started H enc _ F => by rw [OpenClaim.pre_eq_preRow]; exact builds_lifted os started H enc F)
#print axioms builds_holds
end Go.Proofs.YtdnhhdplcminlaaGreatDoor
