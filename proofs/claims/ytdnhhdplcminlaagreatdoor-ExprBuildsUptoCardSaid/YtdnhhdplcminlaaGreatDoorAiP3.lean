/- Building values of expressions: the program. -/
import Derived.Test.YtdnhhdplcminlaaGreatDoorAiP2
import Derived.Test.YtdnhhdplcminlaaGreatDoorAiN2
set_option maxHeartbeats 1000000
set_option maxRecDepth 100000
set_option linter.unusedVariables false
set_option linter.unusedSimpArgs false
set_option linter.unusedSectionVars false
namespace Go.Proofs.YtdnhhdplcminlaaGreatDoor.AI
open Go

@[simp] theorem buildVs_length (l : List E) : (buildVs l).length = l.length := by rw [buildVs_map]; simp

theorem zipF_length (ns : List Str) (l : List V) (h : l.length = ns.length) : (zipF ns l).length = ns.length := by
  simp [zipF, h]
theorem zipF_get (ns : List Str) (l : List V) (k : Nat) (h1 : k < ns.length) (h2 : k < l.length) (h3 : k < (zipF ns l).length) : (zipF ns l)[k] = F.mk ns[k] l[k] := by
  simp [zipF]

theorem build_docs (ns : List Str) (hns : ns.length ≤ 536870912) (l : List V) (hl : l.length = ns.length) (Q : AV → Prop) (hq : Q (.agg (cV (V.doc' (zipF ns l))))) (id2 : Nat) {k : Nat} (hk : k ≤ ns.length) : ∀ (h : Heap) (id : Nat), (0 < k → h[id]? = some (some (.tok 54 k (encFs ((zipF ns l).take k)).length))) →
    LP 48 25 [.box [.int .i64 0, .int .i64 0, .str [], .tk 0 0 [], .tk 0 0 []], .tk id2 l.length (encVs l), .box [.int .i64 5, .int .i64 0, .str [], .tk 0 0 [], .tk id k (encFs ((zipF ns l).take k))], .sl false ns.length (encS ns), .int .i64 (ns.length : Int), .int .i64 (k : Int)] h Q := by
  refine up_to (P := fun k => ∀ (h : Heap) (id : Nat), (0 < k → h[id]? = some (some (.tok 54 k (encFs ((zipF ns l).take k)).length))) →
    LP 48 25 [.box [.int .i64 0, .int .i64 0, .str [], .tk 0 0 [], .tk 0 0 []], .tk id2 l.length (encVs l), .box [.int .i64 5, .int .i64 0, .str [], .tk 0 0 [], .tk id k (encFs ((zipF ns l).take k))], .sl false ns.length (encS ns), .int .i64 (ns.length : Int), .int .i64 (k : Int)] h Q) ?_ ?_ hk
  · intro h id ho
    refine labelIs ?_
    rw [l48_25]
    have hlt : decide ((ns.length : Int) < (ns.length : Int)) = false := by simp
    rw [hlt, cond_false]
    have hz := zipF_length ns l hl
    have ht : (zipF ns l).take ns.length = zipF ns l := by rw [← hz, List.take_length]
    rw [ht]
    refine ⟨.agg (cV (V.doc' (zipF ns l))), ?_, hq⟩
    simp only [eraseW, eraseL, erFs, Option.map_some]
    show _ = some (AV.agg [.int .i64 5, .int .i64 0, .str [], .sl false 0 [], .sl false (zipF ns l).length (encFs (zipF ns l))])
    rw [hz]
    rfl
  · intro k hk1 ih h id ho
    refine labelIs ?_
    rw [l48_25]
    have hz := zipF_length ns l hl
    have hk2 : k < l.length := by omega
    have hk3 : k < (zipF ns l).length := by omega
    have hlt : decide ((k : Int) < (ns.length : Int)) = true := by simpa using hk1
    rw [hlt, cond_true, Int.toNat_natCast, wrap_of (by omega)]
    refine ⟨by omega, _, seg_S (List.getElem?_eq_getElem hk1), by omega, _, _, _, _, _, _, _, seg_V (List.getElem?_eq_getElem hk2), ?_⟩
    have hc : cF (zipF ns l)[k] = .str ns[k] :: cV l[k] := by rw [zipF_get ns l k hk1 hk2 hk3]; rfl
    obtain ⟨h', id', h1, h2, _⟩ := app_own (t := 24) (el := 54) (sz := 6) (by kernel_rfl) (h := h) (id := id) (n := k) (cs := encFs ((zipF ns l).take k)) (x := .sl true 1 (.str ns[k] :: cV l[k])) (m := 1) (ys := .str ns[k] :: cV l[k]) rfl rfl (by omega) (by omega) (by simp; omega) ho
    refine ⟨h', id', h1, ?_⟩
    have ht : encFs ((zipF ns l).take k) ++ (.str ns[k] :: cV l[k]) = encFs ((zipF ns l).take (k + 1)) := by
      rw [List.take_succ_eq_append_getElem hk3, encFs_append, encFs_one, hc]
    rw [ht] at h2 ⊢
    exact ih h' id' (fun _ => h2)

/-- A document with one field, as it is written. -/
theorem er_one {R : Nat → Nat → Nat → Option (List AV)} (n : Str) (v : V) : eraseW false R (.agg [.int .i64 5, .int .i64 0, .str [], .tk 0 0 [], .sl true 1 [.str n, .int .i64 v.kind, .int .i64 v.int, .str v.text, .sl false v.list.length (encVs v.list), .sl false v.doc.length (encFs v.doc)]]) = some (.agg (cV (V.one n v))) := by
  simp only [eraseW, eraseL, erVs, erFs, Option.map_some]
  have : encFs [F.mk n v] = cF (F.mk n v) := encFs_one _
  show _ = some (AV.agg [.int .i64 5, .int .i64 0, .str [], .sl false 0 [], .sl false 1 (encFs [F.mk n v])])
  rw [this]
  rfl
theorem er_V {R : Nat → Nat → Nat → Option (List AV)} (v : V) : eraseW false R (.agg (cV v)) = some (.agg (cV v)) := er_cn (by simp)
theorem encVs_three (a b c : V) : encVs [a, b, c] = cV a ++ cV b ++ cV c := by
  simp [encVs, encV_eq]

theorem two_of {l : List V} (h : l.length = 2) : ∃ a b, l = [a, b] := by
  match l, h with
  | [a, b], _ => exact ⟨a, b, rfl⟩
theorem getD_two (a b z : V) : [a, b].getD 0 z = a ∧ [a, b].getD 1 z = b := ⟨rfl, rfl⟩

theorem shape2 {k : Nat} (h : 1 ≤ k) (h2 : k < 38) (n m : Nat) (hk : kidsOkB k n m = true) (hs : (opShape k == 2) = true) : n = 1 := by
  rw [← shape_kids n m h h2] at hk
  have hs : opShape k = 2 := by simpa using hs
  rw [hs] at hk
  simp [byShape] at hk
  omega

theorem asIs_eq (a : V) : (bif bif a.kind != (6 : Int) then bif a.kind != (5 : Int) then true else (a.doc.length : Int) == (0 : Int) else false then !bif a.kind == (4 : Int) then prefixB a.text [36] else false else false) = asIs a := by
  unfold asIs
  have e : ((a.doc.length : Int) == (0 : Int)) = (a.doc.length == 0) := by
    rw [Bool.eq_iff_iff]; simp
  rw [e]

/-- What comes behind the kids. -/
theorem build_loop (e : E) (he : e.Sm) (ho : NodeOk e) (ih : ∀ x ∈ e.kids, CallT 48 [.agg (cE x)] [] (.agg (cV (buildV x))) []) (Q : AV → Prop) (hq : Q (.agg (cV (buildV e)))) {k : Nat} (hk : k ≤ e.kids.length) : ∀ (h : Heap) (id : Nat), (0 < k → h[id]? = some (some (.tok 26 k (encVs ((buildVs e.kids).take k)).length))) →
    LP 48 3 [.box (cE e), .box [.int .i64 0, .int .i64 0, .str [], .tk 0 0 [], .tk 0 0 []], .tk id k (encVs ((buildVs e.kids).take k)), .sl false e.kids.length (encEs e.kids), .int .i64 (e.kids.length : Int), .int .i64 (k : Int)] h Q := by
  refine up_to (P := fun k => ∀ (h : Heap) (id : Nat), (0 < k → h[id]? = some (some (.tok 26 k (encVs ((buildVs e.kids).take k)).length))) →
    LP 48 3 [.box (cE e), .box [.int .i64 0, .int .i64 0, .str [], .tk 0 0 [], .tk 0 0 []], .tk id k (encVs ((buildVs e.kids).take k)), .sl false e.kids.length (encEs e.kids), .int .i64 (e.kids.length : Int), .int .i64 (k : Int)] h Q) ?_ ?_ hk
  · intro h id hown
    refine labelIs ?_
    rw [l48_3]
    have hlt : decide ((e.kids.length : Int) < (e.kids.length : Int)) = false := by simp
    rw [hlt, cond_false]
    have hbl := buildVs_length e.kids
    rw [show (buildVs e.kids).take e.kids.length = buildVs e.kids by rw [← hbl, List.take_length]]
    generalize hB : buildVs e.kids = l at hbl
    have hv : buildV e = bld e.op e.path e.name e.names e.arg l := by rw [buildV_eq, hB]
    obtain ⟨j, hj⟩ : ∃ j : Nat, e.op = j := ⟨e.op.toNat, by have := ho.op; omega⟩
    have hj1 : 1 ≤ j := by have := ho.op; omega
    have hj2 : j < 38 := by have := ho.op; omega
    have hjn : e.op.toNat = j := by rw [hj]; rfl
    refine ⟨_, _, _, _, _, _, _, pcOf (by kernel_rfl) (a := [.sl false l.length (encVs l)]) (by simp only [eraseL, er_tk (Cn_encVs l), hbl]) (c75 l), ?_⟩
    unfold bld at hv
    cases h1 : (e.op == (1 : Int)) with
    | true =>
      rw [h1, cond_true] at hv
      rw [cond_true]
      refine ⟨prefixB e.arg.text [36], fun _ => pcIs (by kernel_rfl) (by simp) (c63 _ _), ?_⟩
      rw [asIs_eq e.arg]
      cases hb : asIs e.arg with
      | true =>
        rw [hb, cond_true] at hv
        rw [cond_true]
        rw [hv] at hq
        exact ⟨_, er_V _, hq⟩
      | false =>
        rw [hb, cond_false] at hv
        rw [cond_false]
        rw [hv] at hq
        refine ⟨by omega, opName 1, ?_, _, er_one _ _, hq⟩
        have : e.op = 1 := by simpa using h1
        rw [this]
        exact seg_name (by omega)
    | false =>
    rw [h1, cond_false] at hv
    rw [cond_false]
    cases h2 : (e.op == (2 : Int)) with
    | true =>
      rw [h2, cond_true] at hv
      rw [cond_true]
      have hp := ho.path (by simpa using h2)
      have hl := joinPath_len hp
      rw [hv] at hq
      exact ⟨_, pcIs (by kernel_rfl) (by simp) (c36 e.path he.path.1 (by omega)), by omega, _, _, _, _, _, _, _, pcIs (by kernel_rfl) (by simp) (c76 _), _, er_V _, hq⟩
    | false =>
    rw [h2, cond_false] at hv
    rw [cond_false]
    cases h3 : (e.op == (3 : Int)) with
    | true =>
      rw [h3, cond_true] at hv
      rw [cond_true]
      have h3' : e.op = 3 := by simpa using h3
      have hl := joinVar_len (ho.name (.inl h3')) (ho.path3 h3')
      rw [hv] at hq
      have hpl : e.path.length ≤ 16 := by
        by_cases hp0 : e.path = []
        · rw [hp0]; simp
        · exact (pathOk_len (ho.path3 h3' hp0)).1
      have ha := app_sl (t := 22) (el := 9) (sz := 1) (by kernel_rfl) (h := h) (n := 1) (cs := [.str e.name]) (x := .sl false e.path.length (encS e.path)) (m := e.path.length) (ys := encS e.path) rfl (by simp) (by omega) rfl
      have hjl : 2 + (joinB [46] (e.name :: e.path)).length ≤ 4611686018427387904 := by omega
      have hc58 := c58 (e.name :: e.path) [46] (by simp only [List.length_cons]; omega) (by omega)
      refine ⟨fun h0 => ⟨ha.1 h0, joinB [46] (e.name :: e.path), ?_, hjl, _, _, _, _, _, _, _, pcIs (by kernel_rfl) (by simp) (c76 _), _, er_V _, hq⟩, fun h0 => ?_⟩
      · have hp0 : e.path = [] := List.eq_nil_of_length_eq_zero h0
        rw [hp0] at hc58 ⊢
        exact pcOf (by kernel_rfl) (a := [.sl false 1 (encS [e.name]), .str [46]]) rfl hc58
      · obtain ⟨h', id', ha'⟩ := ha.2 h0
        refine ⟨h', id', ha', joinB [46] (e.name :: e.path), ?_, by omega, _, _, _, _, _, _, _, pcIs (by kernel_rfl) (by simp) (c76 _), _, er_V _, hq⟩
        have e1 : 1 + e.path.length = (e.name :: e.path).length := by simp; omega
        rw [e1]
        exact pcOf (by kernel_rfl) (a := [.sl false (e.name :: e.path).length (encS (e.name :: e.path)), .str [46]]) (by
          have : (AV.str e.name :: encS e.path) = encS (e.name :: e.path) := rfl
          rw [this]
          simp only [eraseL, eraseW, erS, Option.map_some, Bool.false_and, cond_false]) hc58
    | false =>
    rw [h3, cond_false] at hv
    rw [cond_false]
    cases h35 : (e.op == (35 : Int)) with
    | true =>
      rw [h35, cond_true] at hv
      rw [cond_true]
      rw [hv] at hq
      exact ⟨_, er_V _, hq⟩
    | false =>
    rw [h35, cond_false] at hv
    rw [cond_false]
    cases h34 : (e.op == (34 : Int)) with
    | true =>
      rw [h34, cond_true] at hv
      rw [cond_true]
      rw [hv] at hq
      have hk := ((kids_of ho.kids).2 (by simpa using h34)).1
      have hn := he.names.1
      have := build_docs e.names hn l (by omega) Q hq id (Nat.zero_le _) h 0 (fun h9 => absurd h9 (Nat.lt_irrefl 0))
      rw [hbl] at this
      simpa [encFs] using this
    | false =>
    rw [h34, cond_false] at hv
    rw [cond_false]
    have hk0 := (kids_of ho.kids).1
    have hop := ho.op
    cases h32 : (e.op == (32 : Int)) with
    | true =>
      rw [h32, Bool.true_or, cond_true] at hv
      rw [cond_true]
      have h32' : e.op = 32 := by simpa using h32
      have hk2 : e.kids.length = 2 := by
        have := hk0 (by rw [h32']; decide)
        rw [h32'] at this
        have e9 : kidsN 32 = 2 := by decide
        omega
      obtain ⟨a, b, hab⟩ := two_of (l := l) (by omega)
      rw [hab, (getD_two a b _).1, (getD_two a b _).2, hjn] at hv
      rw [hv] at hq
      have sg0 : seg (encVs l) 0 5 = some (cV a) := by rw [hab]; exact seg_V (i := 0) rfl
      have sg1 : seg (encVs l) 5 5 = some (cV b) := by rw [hab]; exact seg_V (i := 1) rfl
      refine ⟨by omega, _, _, _, _, _, _, _, sg0, _, _, _, _, _, _, _, pcIs (by kernel_rfl) (by simp) (c76 e.name), by omega, _, _, _, _, _, _, _, sg1, _, _, _, _, _, _, _, pcOf (by kernel_rfl) (a := [.sl false 3 (encVs [a, V.text' e.name, b])]) ?_ (c75 [a, V.text' e.name, b]), by omega, opName j, ?_, _, er_one _ _, hq⟩
      · have e5 : [AV.int IntKind.i64 a.kind, AV.int IntKind.i64 a.int, AV.str a.text, AV.sl false a.list.length (encVs a.list), AV.sl false a.doc.length (encFs a.doc), AV.int IntKind.i64 (V.text' e.name).kind, AV.int IntKind.i64 (V.text' e.name).int, AV.str (V.text' e.name).text, AV.sl false (V.text' e.name).list.length (encVs (V.text' e.name).list), AV.sl false (V.text' e.name).doc.length (encFs (V.text' e.name).doc), AV.int IntKind.i64 b.kind, AV.int IntKind.i64 b.int, AV.str b.text, AV.sl false b.list.length (encVs b.list), AV.sl false b.doc.length (encFs b.doc)] = encVs [a, V.text' e.name, b] := by
          rw [encVs_three]; rfl
        rw [e5]
        simp only [eraseL, eraseW, erVs, Option.map_some, Bool.false_and, cond_false]
      · rw [hjn]; exact seg_name hj2
    | false =>
    rw [h32, Bool.false_or] at hv
    rw [cond_false]
    cases h33 : (e.op == (33 : Int)) with
    | true =>
      rw [h33, cond_true] at hv
      rw [cond_true]
      have h33' : e.op = 33 := by simpa using h33
      have hk2 : e.kids.length = 2 := by
        have := hk0 (by rw [h33']; decide)
        rw [h33'] at this
        have e9 : kidsN 33 = 2 := by decide
        omega
      obtain ⟨a, b, hab⟩ := two_of (l := l) (by omega)
      rw [hab, (getD_two a b _).1, (getD_two a b _).2, hjn] at hv
      rw [hv] at hq
      have sg0 : seg (encVs l) 0 5 = some (cV a) := by rw [hab]; exact seg_V (i := 0) rfl
      have sg1 : seg (encVs l) 5 5 = some (cV b) := by rw [hab]; exact seg_V (i := 1) rfl
      refine ⟨by omega, _, _, _, _, _, _, _, sg0, _, _, _, _, _, _, _, pcIs (by kernel_rfl) (by simp) (c76 e.name), by omega, _, _, _, _, _, _, _, sg1, _, _, _, _, _, _, _, pcOf (by kernel_rfl) (a := [.sl false 3 (encVs [a, V.text' e.name, b])]) ?_ (c75 [a, V.text' e.name, b]), by omega, opName j, ?_, _, er_one _ _, hq⟩
      · have e5 : [AV.int IntKind.i64 a.kind, AV.int IntKind.i64 a.int, AV.str a.text, AV.sl false a.list.length (encVs a.list), AV.sl false a.doc.length (encFs a.doc), AV.int IntKind.i64 (V.text' e.name).kind, AV.int IntKind.i64 (V.text' e.name).int, AV.str (V.text' e.name).text, AV.sl false (V.text' e.name).list.length (encVs (V.text' e.name).list), AV.sl false (V.text' e.name).doc.length (encFs (V.text' e.name).doc), AV.int IntKind.i64 b.kind, AV.int IntKind.i64 b.int, AV.str b.text, AV.sl false b.list.length (encVs b.list), AV.sl false b.doc.length (encFs b.doc)] = encVs [a, V.text' e.name, b] := by
          rw [encVs_three]; rfl
        rw [e5]
        simp only [eraseL, eraseW, erVs, Option.map_some, Bool.false_and, cond_false]
      · rw [hjn]; exact seg_name hj2
    | false =>
    rw [h33, cond_false, hjn] at hv
    rw [cond_false]
    refine ⟨by omega, opShape j, by rw [hjn]; exact seg_shape hj2, ?_⟩
    cases hs : (opShape j == (2 : Int)) with
    | true =>
      rw [hs, cond_true] at hv
      rw [cond_true]
      have hk1 : e.kids.length = 1 := by
        have := ho.kids
        rw [hj] at this
        exact shape2 hj1 hj2 _ _ this hs
      obtain ⟨a, hab⟩ : ∃ a, l = [a] := by
        match l, (show l.length = 1 by omega) with
        | [a], _ => exact ⟨a, rfl⟩
      rw [hab] at hv
      have hv : buildV e = V.one (opName j) a := hv
      rw [hv] at hq
      have sg0 : seg (encVs l) 0 5 = some (cV a) := by rw [hab]; exact seg_V (i := 0) rfl
      exact ⟨by omega, _, _, _, _, _, _, _, sg0, by omega, opName j, by rw [hjn]; exact seg_name hj2, _, er_one _ _, hq⟩
    | false =>
      rw [hs, cond_false] at hv
      rw [cond_false]
      rw [hv] at hq
      exact ⟨by omega, opName j, by rw [hjn]; exact seg_name hj2, _, er_one _ _, hq⟩
  · intro k hk1 ihk h id hown
    have hkl := he.kids
    refine labelIs ?_
    rw [l48_3]
    have hlt : decide ((k : Int) < (e.kids.length : Int)) = true := by simpa using hk1
    rw [hlt, cond_true, Int.toNat_natCast, wrap_of (by omega)]
    have hk2 : k < (buildVs e.kids).length := by rw [buildVs_length]; exact hk1
    have hget : (buildVs e.kids)[k] = buildV e.kids[k] := by simp [buildVs_map]
    refine ⟨by omega, _, _, _, _, _, _, _, _, _, _, _, _, _, _, _, _, seg_E (List.getElem?_eq_getElem hk1), ?_⟩
    refine ⟨_, _, _, _, _, _, _, pcIs (by kernel_rfl) (by simp) (ih _ (List.getElem_mem hk1)), ?_⟩
    obtain ⟨h', id', h1, h2, _⟩ := app_own (t := 23) (el := 26) (sz := 5) (by kernel_rfl) (h := h) (id := id) (n := k) (cs := encVs ((buildVs e.kids).take k)) (x := .sl true 1 (cV (buildV e.kids[k]))) (m := 1) (ys := cV (buildV e.kids[k])) rfl rfl (by omega) (by omega) (by simp; omega) hown
    refine ⟨h', id', h1, ?_⟩
    have ht : encVs ((buildVs e.kids).take k) ++ cV (buildV e.kids[k]) = encVs ((buildVs e.kids).take (k + 1)) := by
      rw [List.take_succ_eq_append_getElem hk2, encVs_append, encVs_one, hget]
    rw [ht] at h2 ⊢
    exact ihk h' id' (fun _ => h2)

/-- build -/
theorem c48 : ∀ e : E, e.Sm → okE e = true → CallT 48 [.agg (cE e)] [] (.agg (cV (buildV e))) [] := by
  refine E.ind' ?_
  intro e ih he ho
  refine pureIs (M := ⟨false, 0⟩) (by kernel_rfl) (by simp) ?_
  rw [n48]
  have := build_loop e he (okE_node ho) (fun x hx => ih x hx (he.kid hx) (okE_kid ho hx)) (fun v => v = .agg (cV (buildV e))) rfl (Nat.zero_le _) [] 0 (fun h9 => absurd h9 (Nat.lt_irrefl 0))
  simpa [encVs] using this
end Go.Proofs.YtdnhhdplcminlaaGreatDoor.AI

/- Building values of expressions: the reference. -/
set_option maxHeartbeats 1000000
set_option maxRecDepth 100000
set_option linter.unusedVariables false
set_option linter.unusedSimpArgs false
set_option linter.unusedSectionVars false
namespace Go.Proofs.YtdnhhdplcminlaaGreatDoor.AI
open Go

def refWord (a : V) : Bool := bif bif bif bif a.kind == (4 : Int) then decide ((a.text.length : Int) > (0 : Int)) else false then (((a.text.getD 0 0).toNat : Nat) : Int) == (36 : Int) else false then true else a.kind == (6 : Int) then true else decide ((a.doc.length : Int) > (0 : Int))

theorem prefix_head (t : Str) : (bif decide ((t.length : Int) > (0 : Int)) then (((t.getD 0 0).toNat : Nat) : Int) == (36 : Int) else false) = prefixB t [36] := by
  cases t with
  | nil => rfl
  | cons c r =>
    have e1 : decide (((c :: r).length : Int) > 0) = true := by simp
    rw [e1, cond_true]
    have e2 : prefixB (c :: r) [36] = ([c] == [36]) := by simp [prefixB]
    rw [e2]
    show (((c.toNat : Nat) : Int) == 36) = _
    rw [Bool.eq_iff_iff]
    simp only [beq_iff_eq, List.cons.injEq, and_true]
    constructor
    · intro h
      have h : c.toNat = 36 := by omega
      exact UInt8.toNat_inj.1 h
    · intro h; subst h; rfl

theorem ref_as (a : V) (h : a.kind = 5 ∨ a.doc = []) : refWord a = !asIs a := by
  unfold refWord asIs
  rw [← prefix_head a.text]
  have hd : decide ((a.doc.length : Int) > 0) = !(a.doc.length == 0) := by
    cases a.doc with
    | nil => rfl
    | cons x r => simp
  rw [hd]
  clear hd
  generalize decide ((a.text.length : Int) > (0 : Int)) = l
  generalize ((((a.text.getD 0 0).toNat : Nat) : Int) == (36 : Int)) = c
  have hx : (a.kind == 5) = false → (a.doc.length == 0) = true := by
    intro h5
    have h5 : a.kind ≠ 5 := by simpa using h5
    rw [h.resolve_left h5]; rfl
  have h45 : (a.kind == 4) = true → (a.kind == 5) = false ∧ (a.kind == 6) = false := by
    intro h4
    have h4 : a.kind = 4 := by simpa using h4
    rw [h4]; exact ⟨rfl, rfl⟩
  have h56 : (a.kind == 5) = true → (a.kind == 6) = false := by
    intro h4
    have h4 : a.kind = 5 := by simpa using h4
    rw [h4]; rfl
  clear h
  unfold bne
  generalize (a.kind == 4) = k4 at *
  generalize (a.kind == 5) = k5 at *
  generalize (a.kind == 6) = k6 at *
  generalize (a.doc.length == 0) = d at *
  revert l c k4 k5 k6 d
  decide

theorem two_kids {k : Nat} (h : 1 ≤ k) (h2 : k < 38) : (opShape k == 2) = (kidsN k == 1) := cases37 h h2 (p := fun k => (opShape k == 2) = (kidsN k == 1)) (by decide)

theorem validB_doc {nm : Str → Bool} {v : V} (h : validB nm v = true) : v.kind = 5 ∨ v.doc = [] := by
  simp only [validB, Bool.and_eq_true] at h
  have h := h.2.2
  rw [formed_eq] at h
  simp only [headB, Bool.and_eq_true, Bool.or_eq_true, beq_iff_eq] at h
  rcases h.1.2.1 with h | h
  · exact .inl h
  · exact .inr (List.eq_nil_of_length_eq_zero h)

theorem refbuild_docs (e : E) (hns : e.names.length ≤ 536870912) (l : List V) (hl : l.length = e.names.length) (Q : AV → Prop) (hq : Q (.agg (cV (V.doc' (zipF e.names l))))) (id2 : Nat) {k : Nat} (hk : k ≤ e.names.length) : ∀ (h : Heap) (id : Nat), (0 < k → h[id]? = some (some (.tok 54 k (encFs ((zipF e.names l).take k)).length))) →
    LP 50 23 [.box (cE e), .box [.int .i64 0, .int .i64 0, .str [], .tk 0 0 [], .tk 0 0 []], .tk id2 l.length (encVs l), .box [.int .i64 5, .int .i64 0, .str [], .tk 0 0 [], .tk id k (encFs ((zipF e.names l).take k))], .int .i64 (k : Int)] h Q := by
  refine up_to (P := fun k => ∀ (h : Heap) (id : Nat), (0 < k → h[id]? = some (some (.tok 54 k (encFs ((zipF e.names l).take k)).length))) →
    LP 50 23 [.box (cE e), .box [.int .i64 0, .int .i64 0, .str [], .tk 0 0 [], .tk 0 0 []], .tk id2 l.length (encVs l), .box [.int .i64 5, .int .i64 0, .str [], .tk 0 0 [], .tk id k (encFs ((zipF e.names l).take k))], .int .i64 (k : Int)] h Q) ?_ ?_ hk
  · intro h id ho
    refine labelIs ?_
    rw [l50_23]
    have hlt : decide ((e.names.length : Int) < (l.length : Int)) = false := by simp; omega
    rw [hlt, cond_false]
    have hz := zipF_length e.names l hl
    have ht : (zipF e.names l).take e.names.length = zipF e.names l := by rw [← hz, List.take_length]
    rw [ht]
    refine ⟨.agg (cV (V.doc' (zipF e.names l))), ?_, hq⟩
    simp only [eraseW, eraseL, erFs, Option.map_some]
    show _ = some (AV.agg [.int .i64 5, .int .i64 0, .str [], .sl false 0 [], .sl false (zipF e.names l).length (encFs (zipF e.names l))])
    rw [hz]
    rfl
  · intro k hk1 ih h id ho
    refine labelIs ?_
    rw [l50_23]
    have hz := zipF_length e.names l hl
    have hk2 : k < l.length := by omega
    have hk3 : k < (zipF e.names l).length := by omega
    have hlt : decide ((k : Int) < (l.length : Int)) = true := by simp; omega
    rw [hlt, cond_true, Int.toNat_natCast, wrap_of (by omega)]
    refine ⟨by omega, _, seg_S (List.getElem?_eq_getElem hk1), by omega, _, _, _, _, _, _, _, seg_V (List.getElem?_eq_getElem hk2), ?_⟩
    have hc : cF (zipF e.names l)[k] = .str e.names[k] :: cV l[k] := by rw [zipF_get e.names l k hk1 hk2 hk3]; rfl
    obtain ⟨h', id', h1, h2, _⟩ := app_own (t := 24) (el := 54) (sz := 6) (by kernel_rfl) (h := h) (id := id) (n := k) (cs := encFs ((zipF e.names l).take k)) (x := .sl true 1 (.str e.names[k] :: cV l[k])) (m := 1) (ys := .str e.names[k] :: cV l[k]) rfl rfl (by omega) (by omega) (by simp; omega) ho
    refine ⟨h', id', h1, ?_⟩
    have ht : encFs ((zipF e.names l).take k) ++ (.str e.names[k] :: cV l[k]) = encFs ((zipF e.names l).take (k + 1)) := by
      rw [List.take_succ_eq_append_getElem hk3, encFs_append, encFs_one, hc]
    rw [ht] at h2 ⊢
    exact ih h' id' (fun _ => h2)

/-- What comes behind the kids. -/
theorem refbuild_loop (e : E) (he : e.Sm) (ho : NodeOk e) (ih : ∀ x ∈ e.kids, CallT 50 [.agg (cE x)] [] (.agg (cV (buildV x))) []) (Q : AV → Prop) (hq : Q (.agg (cV (buildV e)))) {k : Nat} (hk : k ≤ e.kids.length) : ∀ (h : Heap) (id : Nat), (0 < k → h[id]? = some (some (.tok 26 k (encVs ((buildVs e.kids).take k)).length))) →
    LP 50 3 [.box (cE e), .box [.int .i64 0, .int .i64 0, .str [], .tk 0 0 [], .tk 0 0 []], .tk id k (encVs ((buildVs e.kids).take k)), .int .i64 (k : Int)] h Q := by
  refine up_to (P := fun k => ∀ (h : Heap) (id : Nat), (0 < k → h[id]? = some (some (.tok 26 k (encVs ((buildVs e.kids).take k)).length))) →
    LP 50 3 [.box (cE e), .box [.int .i64 0, .int .i64 0, .str [], .tk 0 0 [], .tk 0 0 []], .tk id k (encVs ((buildVs e.kids).take k)), .int .i64 (k : Int)] h Q) ?_ ?_ hk
  · intro h id hown
    refine labelIs ?_
    rw [l50_3]
    have hlt : decide ((e.kids.length : Int) < (e.kids.length : Int)) = false := by simp
    rw [hlt, cond_false]
    have hbl := buildVs_length e.kids
    rw [show (buildVs e.kids).take e.kids.length = buildVs e.kids by rw [← hbl, List.take_length]]
    generalize hB : buildVs e.kids = l at hbl
    have hv : buildV e = bld e.op e.path e.name e.names e.arg l := by rw [buildV_eq, hB]
    obtain ⟨j, hj⟩ : ∃ j : Nat, e.op = j := ⟨e.op.toNat, by have := ho.op; omega⟩
    have hj1 : 1 ≤ j := by have := ho.op; omega
    have hj2 : j < 38 := by have := ho.op; omega
    have hjn : e.op.toNat = j := by rw [hj]; rfl
    have hw : wordS e.op = opName j := by rw [hj]; exact word_name hj1 hj2
    have c25' : PCT 25 [.tk id e.kids.length (encVs l)] (.agg (cV (V.list' l))) := pcOf (by kernel_rfl) (a := [.sl false l.length (encVs l)]) (by simp only [eraseL, er_tk (Cn_encVs l), hbl]) (c25 l)
    have c78' : PCT 78 [.int .i64 e.op] (.str (opName j)) := by rw [← hw]; exact pcIs (by kernel_rfl) (by simp) (c78 e.op)
    have c77' : ∀ v : V, PCT 77 [.str (opName j), .agg (cV v)] (.agg (cV (V.one (opName j) v))) := fun v => pcIs (by kernel_rfl) (by simp) (c77 _ v)
    unfold bld at hv
    cases h1 : (e.op == (1 : Int)) with
    | true =>
      rw [h1, cond_true] at hv
      rw [cond_true]
      have har := ref_as e.arg (validB_doc (ho.arg (by simpa using h1)))
      unfold refWord at har
      refine ⟨fun h9 => ?_, ?_⟩
      · rw [Bool.and_true] at h9
        cases h4 : (e.arg.kind == (4 : Int)) with
        | true =>
          rw [h4, cond_true, decide_eq_true_eq] at h9
          exact ⟨by omega, h9⟩
        | false => rw [h4] at h9; cases h9
      rw [har]
      cases hb : asIs e.arg with
      | true =>
        rw [hb, cond_true] at hv
        rw [Bool.not_true, cond_false]
        rw [hv] at hq
        exact ⟨_, er_V _, hq⟩
      | false =>
        rw [hb, cond_false] at hv
        rw [Bool.not_false, cond_true]
        rw [hv] at hq
        have e1 : opName 1 = [36, 118, 97, 108, 117, 101] := by decide
        rw [e1] at hq
        exact ⟨_, _, _, _, _, _, _, pcIs (by kernel_rfl) (by simp) (c77 _ e.arg), _, er_V _, hq⟩
    | false =>
    rw [h1, cond_false] at hv
    rw [cond_false]
    cases h2 : (e.op == (2 : Int)) with
    | true =>
      rw [h2, cond_true] at hv
      rw [cond_true]
      have hp := ho.path (by simpa using h2)
      have hl := joinPath_len hp
      rw [hv] at hq
      exact ⟨_, pcIs (by kernel_rfl) (by simp) (c59 e.path he.path), by omega, _, _, _, _, _, _, _, pcIs (by kernel_rfl) (by simp) (c26 _), _, er_V _, hq⟩
    | false =>
    rw [h2, cond_false] at hv
    rw [cond_false]
    cases h3 : (e.op == (3 : Int)) with
    | true =>
      rw [h3, cond_true] at hv
      rw [cond_true]
      have h3' : e.op = 3 := by simpa using h3
      have hl := joinVar_len (ho.name (.inl h3')) (ho.path3 h3')
      rw [hv] at hq
      by_cases hp0 : e.path = []
      · have e0 : ((e.path.length : Int) == 0) = true := by rw [hp0]; rfl
        rw [e0, cond_true]
        have ej : joinB [46] (e.name :: e.path) = e.name := by rw [hp0]; simp [joinB]
        rw [ej] at hl hq
        exact ⟨by omega, _, _, _, _, _, _, _, pcIs (by kernel_rfl) (by simp) (c26 _), _, er_V _, hq⟩
      · have e0 : ((e.path.length : Int) == 0) = false := by
          cases hp : e.path with
          | nil => exact absurd hp hp0
          | cons a b => simp; omega
        rw [e0, cond_false]
        have ej : joinB [46] (e.name :: e.path) = e.name ++ [46] ++ joinB [46] e.path := joinB_cons _ _ hp0
        have e7 : [36, 36] ++ e.name ++ [46] ++ joinB [46] e.path = [36, 36] ++ joinB [46] (e.name :: e.path) := by rw [ej]; simp
        have hl2 : (joinB [46] (e.name :: e.path)).length = e.name.length + 1 + (joinB [46] e.path).length := by rw [ej]; simp; omega
        refine ⟨by omega, by simp; omega, _, pcIs (by kernel_rfl) (by simp) (c59 e.path he.path), by simp; omega, ?_⟩
        rw [e7]
        exact ⟨_, _, _, _, _, _, _, pcIs (by kernel_rfl) (by simp) (c26 _), _, er_V _, hq⟩
    | false =>
    rw [h3, cond_false] at hv
    rw [cond_false]
    cases h35 : (e.op == (35 : Int)) with
    | true =>
      rw [h35, cond_true] at hv
      rw [cond_true]
      rw [hv] at hq
      exact ⟨_, _, _, _, _, _, _, c25', _, er_V _, hq⟩
    | false =>
    rw [h35, cond_false] at hv
    rw [cond_false]
    cases h34 : (e.op == (34 : Int)) with
    | true =>
      rw [h34, cond_true] at hv
      rw [cond_true]
      rw [hv] at hq
      have hk := ((kids_of ho.kids).2 (by simpa using h34)).1
      have hn := he.names.1
      have := refbuild_docs e hn l (by omega) Q hq id (Nat.zero_le _) h 0 (fun h9 => absurd h9 (Nat.lt_irrefl 0))
      rw [hbl] at this
      simpa [encFs] using this
    | false =>
    rw [h34, cond_false] at hv
    rw [cond_false]
    have hk0 := (kids_of ho.kids).1
    have hop := ho.op
    cases h32 : (e.op == (32 : Int)) with
    | true =>
      rw [h32, Bool.true_or, cond_true] at hv
      rw [cond_true]
      have h32' : e.op = 32 := by simpa using h32
      have hk2 : e.kids.length = 2 := by
        have := hk0 (by rw [h32']; decide)
        rw [h32'] at this
        have e9 : kidsN 32 = 2 := by decide
        omega
      obtain ⟨a, b, hab⟩ := two_of (l := l) (by omega)
      rw [hab, (getD_two a b _).1, (getD_two a b _).2, hjn] at hv
      rw [hv] at hq
      have sg0 : seg (encVs l) 0 5 = some (cV a) := by rw [hab]; exact seg_V (i := 0) rfl
      have sg1 : seg (encVs l) 5 5 = some (cV b) := by rw [hab]; exact seg_V (i := 1) rfl
      refine ⟨_, c78', by omega, _, _, _, _, _, _, _, sg0, _, _, _, _, _, _, _, pcIs (by kernel_rfl) (by simp) (c26 e.name), by omega, _, _, _, _, _, _, _, sg1, _, _, _, _, _, _, _, pcOf (by kernel_rfl) (a := [.sl false 3 (encVs [a, V.text' e.name, b])]) ?_ (c25 [a, V.text' e.name, b]), _, _, _, _, _, _, _, c77' _, _, er_V _, hq⟩
      have e5 : [AV.int IntKind.i64 a.kind, AV.int IntKind.i64 a.int, AV.str a.text, AV.sl false a.list.length (encVs a.list), AV.sl false a.doc.length (encFs a.doc), AV.int IntKind.i64 (V.text' e.name).kind, AV.int IntKind.i64 (V.text' e.name).int, AV.str (V.text' e.name).text, AV.sl false (V.text' e.name).list.length (encVs (V.text' e.name).list), AV.sl false (V.text' e.name).doc.length (encFs (V.text' e.name).doc), AV.int IntKind.i64 b.kind, AV.int IntKind.i64 b.int, AV.str b.text, AV.sl false b.list.length (encVs b.list), AV.sl false b.doc.length (encFs b.doc)] = encVs [a, V.text' e.name, b] := by
        rw [encVs_three]; rfl
      rw [e5]
      simp only [eraseL, eraseW, erVs, Option.map_some, Bool.false_and, cond_false]
    | false =>
    rw [h32, Bool.false_or] at hv
    rw [cond_false]
    cases h33 : (e.op == (33 : Int)) with
    | true =>
      rw [h33, cond_true] at hv
      rw [cond_true]
      have h33' : e.op = 33 := by simpa using h33
      have hk2 : e.kids.length = 2 := by
        have := hk0 (by rw [h33']; decide)
        rw [h33'] at this
        have e9 : kidsN 33 = 2 := by decide
        omega
      obtain ⟨a, b, hab⟩ := two_of (l := l) (by omega)
      rw [hab, (getD_two a b _).1, (getD_two a b _).2, hjn] at hv
      rw [hv] at hq
      have sg0 : seg (encVs l) 0 5 = some (cV a) := by rw [hab]; exact seg_V (i := 0) rfl
      have sg1 : seg (encVs l) 5 5 = some (cV b) := by rw [hab]; exact seg_V (i := 1) rfl
      refine ⟨_, c78', by omega, _, _, _, _, _, _, _, sg0, _, _, _, _, _, _, _, pcIs (by kernel_rfl) (by simp) (c26 e.name), by omega, _, _, _, _, _, _, _, sg1, _, _, _, _, _, _, _, pcOf (by kernel_rfl) (a := [.sl false 3 (encVs [a, V.text' e.name, b])]) ?_ (c25 [a, V.text' e.name, b]), _, _, _, _, _, _, _, c77' _, _, er_V _, hq⟩
      have e5 : [AV.int IntKind.i64 a.kind, AV.int IntKind.i64 a.int, AV.str a.text, AV.sl false a.list.length (encVs a.list), AV.sl false a.doc.length (encFs a.doc), AV.int IntKind.i64 (V.text' e.name).kind, AV.int IntKind.i64 (V.text' e.name).int, AV.str (V.text' e.name).text, AV.sl false (V.text' e.name).list.length (encVs (V.text' e.name).list), AV.sl false (V.text' e.name).doc.length (encFs (V.text' e.name).doc), AV.int IntKind.i64 b.kind, AV.int IntKind.i64 b.int, AV.str b.text, AV.sl false b.list.length (encVs b.list), AV.sl false b.doc.length (encFs b.doc)] = encVs [a, V.text' e.name, b] := by
        rw [encVs_three]; rfl
      rw [e5]
      simp only [eraseL, eraseW, erVs, Option.map_some, Bool.false_and, cond_false]
    | false =>
    rw [h33, cond_false, hjn] at hv
    rw [cond_false]
    refine ⟨kidsN e.op, pcIs (by kernel_rfl) (by simp) (c79 e.op), ?_⟩
    have hs2 : (kidsN e.op == 1) = (opShape j == 2) := by rw [hj]; exact (two_kids hj1 hj2).symm
    rw [hs2]
    cases hs : (opShape j == (2 : Int)) with
    | true =>
      rw [hs, cond_true] at hv
      rw [cond_true]
      have hk1 : e.kids.length = 1 := by
        have := ho.kids
        rw [hj] at this
        exact shape2 hj1 hj2 _ _ this hs
      obtain ⟨a, hab⟩ : ∃ a, l = [a] := by
        match l, (show l.length = 1 by omega) with
        | [a], _ => exact ⟨a, rfl⟩
      rw [hab] at hv
      have hv : buildV e = V.one (opName j) a := hv
      rw [hv] at hq
      have sg0 : seg (encVs l) 0 5 = some (cV a) := by rw [hab]; exact seg_V (i := 0) rfl
      exact ⟨_, c78', by omega, _, _, _, _, _, _, _, sg0, _, _, _, _, _, _, _, c77' _, _, er_V _, hq⟩
    | false =>
      rw [hs, cond_false] at hv
      rw [cond_false]
      rw [hv] at hq
      exact ⟨_, c78', _, _, _, _, _, _, _, c25', _, _, _, _, _, _, _, c77' _, _, er_V _, hq⟩
  · intro k hk1 ihk h id hown
    have hkl := he.kids
    refine labelIs ?_
    rw [l50_3]
    have hlt : decide ((k : Int) < (e.kids.length : Int)) = true := by simpa using hk1
    rw [hlt, cond_true, Int.toNat_natCast, wrap_of (by omega)]
    have hk2 : k < (buildVs e.kids).length := by rw [buildVs_length]; exact hk1
    have hget : (buildVs e.kids)[k] = buildV e.kids[k] := by simp [buildVs_map]
    refine ⟨by omega, _, _, _, _, _, _, _, _, _, _, _, _, _, _, _, _, seg_E (List.getElem?_eq_getElem hk1), ?_⟩
    refine ⟨_, _, _, _, _, _, _, pcIs (by kernel_rfl) (by simp) (ih _ (List.getElem_mem hk1)), ?_⟩
    obtain ⟨h', id', h1, h2, _⟩ := app_own (t := 23) (el := 26) (sz := 5) (by kernel_rfl) (h := h) (id := id) (n := k) (cs := encVs ((buildVs e.kids).take k)) (x := .sl true 1 (cV (buildV e.kids[k]))) (m := 1) (ys := cV (buildV e.kids[k])) rfl rfl (by omega) (by omega) (by simp; omega) hown
    refine ⟨h', id', h1, ?_⟩
    have ht : encVs ((buildVs e.kids).take k) ++ cV (buildV e.kids[k]) = encVs ((buildVs e.kids).take (k + 1)) := by
      rw [List.take_succ_eq_append_getElem hk2, encVs_append, encVs_one, hget]
    rw [ht] at h2 ⊢
    exact ihk h' id' (fun _ => h2)

/-- build (the reference) -/
theorem c50 : ∀ e : E, e.Sm → okE e = true → CallT 50 [.agg (cE e)] [] (.agg (cV (buildV e))) [] := by
  refine E.ind' ?_
  intro e ih he ho
  refine pureIs (M := ⟨false, 0⟩) (by kernel_rfl) (by simp) ?_
  rw [n50]
  have := refbuild_loop e he (okE_node ho) (fun x hx => ih x hx (he.kid hx) (okE_kid ho hx)) (fun v => v = .agg (cV (buildV e))) rfl (Nat.zero_le _) [] 0 (fun h9 => absurd h9 (Nat.lt_irrefl 0))
  simpa [encVs] using this
end Go.Proofs.YtdnhhdplcminlaaGreatDoor.AI

/- What is built is well-formed. -/
set_option maxHeartbeats 1000000
set_option maxRecDepth 100000
set_option linter.unusedVariables false
set_option linter.unusedSimpArgs false
set_option linter.unusedSectionVars false
namespace Go.Proofs.YtdnhhdplcminlaaGreatDoor.AI
open Go

/-- A look at all values is depth and size, where lists and documents stand at their kinds. -/
theorem sml_formed (nm : Str → Bool) : ∀ v : V, v.formed nm = true → ∀ level n : Nat, level ≤ 17 → n ≤ 1024 →
    ((sml v level n).1 = true ↔ v.depth + level ≤ 17 ∧ n + v.size ≤ 1024) ∧ ((sml v level n).1 = true → (sml v level n).2 = n + v.size) := by
  refine V.ind' ?_
  intro v ihl ihd hf level n hlev hn
  have lists : ∀ l : List V, (∀ x ∈ l, ∀ level n : Nat, level ≤ 17 → n ≤ 1024 → ((sml x level n).1 = true ↔ x.depth + level ≤ 17 ∧ n + x.size ≤ 1024) ∧ ((sml x level n).1 = true → (sml x level n).2 = n + x.size)) → ∀ level n : Nat, level ≤ 17 → n ≤ 1024 →
      ((smls l level n).1 = true ↔ depthVs l + level ≤ 17 ∧ n + sizeVs l ≤ 1024) ∧ ((smls l level n).1 = true → (smls l level n).2 = n + sizeVs l) := by
    intro l
    induction l with
    | nil => intro _ level n h1 h2; simp only [smls, depthVs, sizeVs]; exact ⟨⟨fun _ => by omega, fun _ => trivial⟩, fun _ => rfl⟩
    | cons x r ih =>
      intro hx level n h1 h2
      have hx1 := hx x (by simp) level n h1 h2
      rw [smls, depthVs, sizeVs]
      cases hb : (sml x level n).1 with
      | false =>
        rw [hb] at hx1
        rw [Bool.not_false, cond_true]
        refine ⟨⟨fun h => (by cases h), fun h => ?_⟩, fun h => (by cases h)⟩
        have := hx1.1.2 ⟨by omega, by omega⟩
        cases this
      | true =>
        rw [hb] at hx1
        have hc := hx1.1.1 rfl
        have hd := hx1.2 rfl
        rw [Bool.not_true, cond_false, hd]
        have hr := ih (fun y hy => hx y (by simp [hy])) level (n + x.size) h1 hc.2
        refine ⟨hr.1.trans ⟨fun h => ⟨by omega, by omega⟩, fun h => ⟨by omega, by omega⟩⟩, fun h => ?_⟩
        rw [hr.2 h]; omega
  have docs : ∀ d : List F, ∀ level n : Nat, smlFs d level n = smls (d.map F.value) level n := by
    intro d
    induction d with
    | nil => intro level n; rfl
    | cons f r ih => intro level n; rw [smlFs_cons, List.map_cons, smls, ih]
  have hfe := formed_eq nm v
  rw [hf] at hfe
  have hfe := hfe.symm
  simp only [headB, Bool.and_eq_true, Bool.or_eq_true, beq_iff_eq, List.all_eq_true] at hfe
  obtain ⟨⟨h6, h5, _⟩, hl, _, hd⟩ := hfe
  have hD : v.depth = 1 + max (depthVs v.list) (depthVs (v.doc.map F.value)) := by
    rw [depth_eq, partsV, depthVs_append]
    congr 1
    congr 1
    · cases hk : (v.kind == 6) with
      | true => rfl
      | false => rw [List.eq_nil_of_length_eq_zero (h6.resolve_left (by simpa using hk))]; rfl
    · cases hk : (v.kind == 5) with
      | true => rfl
      | false => rw [List.eq_nil_of_length_eq_zero (h5.resolve_left (by simpa using hk))]; rfl
  have hS : v.size = 1 + (sizeVs v.list + sizeVs (v.doc.map F.value)) := by
    rw [size_eq, partsV, sizeVs_append]
    congr 1
    congr 1
    · cases hk : (v.kind == 6) with
      | true => rfl
      | false => rw [List.eq_nil_of_length_eq_zero (h6.resolve_left (by simpa using hk))]; rfl
    · cases hk : (v.kind == 5) with
      | true => rfl
      | false => rw [List.eq_nil_of_length_eq_zero (h5.resolve_left (by simpa using hk))]; rfl
  rw [sml_eq]
  cases h1 : decide (level > 16) || decide (n + 1 > 1024) with
  | true =>
    rw [cond_true]
    simp only [Bool.or_eq_true, decide_eq_true_eq] at h1
    exact ⟨⟨fun h => (by cases h), fun h => by omega⟩, fun h => (by cases h)⟩
  | false =>
    rw [cond_false]
    simp only [Bool.or_eq_false_iff, decide_eq_false_iff_not] at h1
    have hA := lists v.list (fun x hx => ihl x hx (hl x hx)) (level + 1) (n + 1) (by omega) (by omega)
    cases hb : (smls v.list (level + 1) (n + 1)).1 with
    | false =>
      rw [hb] at hA
      rw [Bool.not_false, cond_true]
      refine ⟨⟨fun h => (by cases h), fun h => ?_⟩, fun h => (by cases h)⟩
      have := hA.1.2 ⟨by omega, by omega⟩
      cases this
    | true =>
      rw [hb] at hA
      have hc := hA.1.1 rfl
      have he := hA.2 rfl
      rw [Bool.not_true, cond_false, docs, he]
      have hB := lists (v.doc.map F.value) (fun x hx => by
        obtain ⟨f, hf1, rfl⟩ := List.mem_map.1 hx
        exact ihd f hf1 (hd f hf1)) (level + 1) (n + 1 + sizeVs v.list) (by omega) (by omega)
      refine ⟨hB.1.trans ⟨fun h => ⟨by omega, by omega⟩, fun h => ⟨by omega, by omega⟩⟩, fun h => ?_⟩
      rw [hB.2 h]; omega

theorem small_valid {nm : Str → Bool} {v : V} (h : v.formed nm = true) : (sml v 1 0).1 = validB nm v := by
  have := (sml_formed nm v h 1 0 (by omega) (by omega)).1
  rw [Bool.eq_iff_iff, this]
  simp only [validB, Bool.and_eq_true, decide_eq_true_eq, h, and_true]
  omega

theorem utf8_low : ∀ s : Str, (s.all fun b => decide (b.toNat < 128)) = true → utf8B s = true
  | [], _ => rfl
  | b :: r, h => by
    rw [List.all_cons, Bool.and_eq_true] at h
    have e : utf8B (b :: r) = utf8B r := by
      rw [utf8B.eq_def]
      simp only [h.1, cond_true]
    rw [e]
    exact utf8_low r h.2

theorem nameB_low {s : Str} (h : nameB s = true) : (s.all fun b => decide (b.toNat < 128)) = true := by
  simp only [nameB, Bool.and_eq_true] at h
  rw [List.all_eq_true] at h ⊢
  intro b hb
  have := h.2 b hb
  simp only [nameC, Bool.not_eq_true', cond_eq_ite] at this
  split at this
  · cases this
  · rename_i h1
    split at this
    · cases this
    · rename_i h2
      simp only [decide_eq_true_eq] at h2 ⊢
      omega
theorem nameB_wide {s : Str} (h : nameB s = true) : wideB s = true := by
  simp only [nameB, Bool.and_eq_true, Bool.not_eq_true', beq_eq_false_iff_ne, decide_eq_true_eq, List.all_eq_true] at h
  obtain ⟨⟨⟨h1, h2⟩, h3⟩, h4⟩ := h
  simp only [wideB, Bool.and_eq_true, decide_eq_true_eq, List.all_eq_true]
  refine ⟨⟨?_, by omega⟩, fun b hb => ?_⟩
  · cases s with
    | nil => exact absurd rfl h1
    | cons a l => simp
  · have := h4 b hb
    simp only [nameC, Bool.not_eq_true', cond_eq_ite] at this
    split at this
    · cases this
    · rename_i h5
      split at this
      · cases this
      · rename_i h6
        simp only [decide_eq_true_eq] at h5 h6
        have hx : b.toNat < 256 := b.toNat_lt
        simp only [wideC, Bool.not_eq_true', cond_eq_ite]
        simp at this ⊢
        omega

theorem apart_mono {nm nm' : Str → Bool} (hn : ∀ s, nm s = true → nm' s = true) : ∀ (l seen : List Str), apartB nm seen l = true → apartB nm' seen l = true
  | [], _, _ => rfl
  | s :: r, seen, h => by
    rw [apartB] at h ⊢
    cases h1 : nm s with
    | false => rw [h1] at h; cases h
    | true =>
      rw [h1, Bool.not_true, cond_false] at h
      rw [hn s h1, Bool.not_true, cond_false]
      cases h2 : seen.contains s with
      | true => rw [h2] at h; cases h
      | false =>
        rw [h2, cond_false] at h
        rw [cond_false]
        exact apart_mono hn r _ h
theorem formed_mono {nm nm' : Str → Bool} (hn : ∀ s, nm s = true → nm' s = true) : ∀ v : V, v.formed nm = true → v.formed nm' = true := by
  refine V.ind' ?_
  intro v ihl ihd h
  rw [formed_eq] at h ⊢
  simp only [Bool.and_eq_true, List.all_eq_true] at h ⊢
  exact ⟨h.1, fun x hx => ihl x hx (h.2.1 x hx), apart_mono hn _ _ h.2.2.1, fun f hf => ihd f hf (h.2.2.2 f hf)⟩

theorem join_all {p : UInt8 → Bool} {sep : Str} (hs : sep.all p = true) : ∀ l : List Str, (∀ s ∈ l, s.all p = true) → (joinB sep l).all p = true
  | [], _ => by simp [joinB]
  | [s], h => by simpa [joinB] using h s (by simp)
  | s :: t :: l, h => by
    rw [joinB_cons _ _ (by simp), List.all_append, List.all_append, h s (by simp), hs, join_all hs (t :: l) (fun x hx => h x (by simp [hx]))]
    rfl

/-- What is built, by its cases. -/
theorem bld_ind {P : V → Prop} {e : E} (ho : NodeOk e) {l : List V} (hl : l.length = e.kids.length) (hkl : e.kids.length ≤ 536870912) (hall : ∀ x ∈ l, P x) (harg : e.op = 1 → P e.arg) (hone : ∀ k v, 1 ≤ k → k < 38 → (k ≠ 2 ∧ k ≠ 3 ∧ k ≠ 34 ∧ k ≠ 35) → P v → P (V.one (opName k) v))
    (hlist : ∀ m : List V, m.length ≤ 536870912 → (∀ x ∈ m, P x) → P (V.list' m)) (htext : ∀ s : Str, s.length ≤ 600 → (s.all fun b => decide (b.toNat < 128)) = true → P (V.text' s)) (hdoc : e.op = 34 → l.length = e.names.length → P (V.doc' (zipF e.names l))) :
    P (bld e.op e.path e.name e.names e.arg l) := by
  have hop := ho.op
  have hj1 : 1 ≤ e.op.toNat := by omega
  have hj2 : e.op.toNat < 38 := by omega
  have hk0 := (kids_of ho.kids).1
  unfold bld
  cases h1 : (e.op == (1 : Int)) with
  | true =>
    rw [cond_true]
    cases asIs e.arg
    · exact hone _ _ (by omega) (by omega) (by omega) (harg (by simpa using h1))
    · exact harg (by simpa using h1)
  | false =>
  rw [cond_false]
  cases h2 : (e.op == (2 : Int)) with
  | true =>
    rw [cond_true]
    have hp := ho.path (by simpa using h2)
    refine htext _ (by have := joinPath_len hp; simp; omega) ?_
    rw [List.all_append, join_all (by rfl) e.path ?_]
    · rfl
    · intro s hs
      simp only [pathOkB, Bool.and_eq_true, List.all_eq_true] at hp
      exact nameB_low (hp.2 s hs)
  | false =>
  rw [cond_false]
  cases h3 : (e.op == (3 : Int)) with
  | true =>
    rw [cond_true]
    have h3' : e.op = 3 := by simpa using h3
    have hn := ho.name (.inl h3')
    refine htext _ (by have := joinVar_len hn (ho.path3 h3'); simp; omega) ?_
    rw [List.all_append, join_all (by rfl) (e.name :: e.path) ?_]
    · rfl
    · intro s hs
      rcases List.mem_cons.1 hs with rfl | hs
      · exact nameB_low hn
      · have hp := ho.path3 h3' (fun h0 => by rw [h0] at hs; cases hs)
        simp only [pathOkB, Bool.and_eq_true, List.all_eq_true] at hp
        exact nameB_low (hp.2 s hs)
  | false =>
  rw [cond_false]
  cases h35 : (e.op == (35 : Int)) with
  | true => exact hlist l (by omega) hall
  | false =>
  rw [cond_false]
  cases h34 : (e.op == (34 : Int)) with
  | true =>
    have h34' : e.op = 34 := by simpa using h34
    have := ((kids_of ho.kids).2 h34').1
    exact hdoc h34' (by omega)
  | false =>
  rw [cond_false]
  cases h3233 : (e.op == (32 : Int) || e.op == (33 : Int)) with
  | true =>
    rw [cond_true]
    simp only [Bool.or_eq_true, beq_iff_eq] at h3233
    have hn := ho.name (.inr h3233)
    have hk2 : e.kids.length = 2 := by
      rcases h3233 with h | h
      · have := hk0 (by rw [h]; decide)
        rw [h] at this
        have e9 : kidsN 32 = 2 := by decide
        omega
      · have := hk0 (by rw [h]; decide)
        rw [h] at this
        have e9 : kidsN 33 = 2 := by decide
        omega
    obtain ⟨a, b, hab⟩ := two_of (l := l) (by omega)
    rw [hab, (getD_two a b _).1, (getD_two a b _).2]
    refine hone _ _ hj1 hj2 (by omega) (hlist _ (by simp) ?_)
    intro x hx
    simp only [List.mem_cons, List.not_mem_nil, or_false] at hx
    rcases hx with rfl | rfl | rfl
    · exact hall _ (by rw [hab]; simp)
    · exact htext _ (by have := nameB_len hn; omega) (nameB_low hn)
    · exact hall _ (by rw [hab]; simp)
  | false =>
  rw [cond_false]
  have hne : e.op.toNat ≠ 2 ∧ e.op.toNat ≠ 3 ∧ e.op.toNat ≠ 34 ∧ e.op.toNat ≠ 35 := by
    simp only [beq_eq_false_iff_ne, ne_eq] at h2 h3 h34 h35
    omega
  cases hs : (opShape e.op.toNat == (2 : Int)) with
  | true =>
    rw [cond_true]
    have hk1 : e.kids.length = 1 := by
      have := ho.kids
      rw [show e.op = ((e.op.toNat : Nat) : Int) by omega] at this
      exact shape2 hj1 hj2 _ _ this hs
    obtain ⟨a, hab⟩ : ∃ a, l = [a] := by
      match l, (show l.length = 1 by omega) with
      | [a], _ => exact ⟨a, rfl⟩
    rw [hab]
    exact hone _ _ hj1 hj2 hne (hall _ (by rw [hab]; simp))
  | false => exact hone _ _ hj1 hj2 hne (hlist l (by omega) hall)

theorem VsSm_of : ∀ {l : List V}, (∀ x ∈ l, x.Sm) → VsSm l
  | [], _ => trivial
  | v :: l, h => ⟨h v (by simp), VsSm_of fun x hx => h x (by simp [hx])⟩
theorem FsSm_of : ∀ {l : List F}, (∀ x ∈ l, x.Sm) → FsSm l
  | [], _ => trivial
  | v :: l, h => ⟨h v (by simp), FsSm_of fun x hx => h x (by simp [hx])⟩
theorem F.Sm_mk {n : Str} {v : V} (h1 : n.length ≤ 536870912) (h2 : v.Sm) : (F.mk n v).Sm := ⟨h1, h2⟩
theorem opName_len {k : Nat} (h : 1 ≤ k) (h2 : k < 38) : (opName k).length ≤ 20 := by
  have := cases37 h h2 (p := fun k => decide ((opName k).length ≤ 20) = true) (by decide)
  simpa using this
theorem opName_wide {k : Nat} (h : 1 ≤ k) (h2 : k < 38) : wideB (opName k) = true ∨ k = 2 ∨ k = 3 ∨ k = 34 ∨ k = 35 :=
  cases37 h h2 (p := fun k => wideB (opName k) = true ∨ k = 2 ∨ k = 3 ∨ k = 34 ∨ k = 35) (by decide)

theorem zipF_mem {ns : List Str} {l : List V} {f : F} (h : f ∈ zipF ns l) : f.name ∈ ns ∧ f.value ∈ l := by
  obtain ⟨i, hi, rfl⟩ := List.getElem_of_mem h
  have h1 : i < ns.length := by simp [zipF] at hi; omega
  have h2 : i < l.length := by simp [zipF] at hi; omega
  rw [zipF_get ns l i h1 h2 hi]
  exact ⟨List.getElem_mem h1, List.getElem_mem h2⟩
theorem zipF_names : ∀ {ns : List Str} {l : List V}, l.length = ns.length → (zipF ns l).map F.name = ns
  | [], [], _ => rfl
  | n :: ns, v :: l, h => by
    have := zipF_names (ns := ns) (l := l) (by simpa using h)
    show F.name (F.mk n v) :: (zipF ns l).map F.name = _
    rw [this]; rfl

theorem build_Sm : ∀ e : E, e.Sm → okE e = true → (buildV e).Sm := by
  refine E.ind' ?_
  intro e ih he ho
  rw [buildV_eq]
  refine bld_ind (okE_node ho) (buildVs_length _) he.kids ?_ (fun _ => he.arg) ?_ ?_ ?_ ?_
  · intro x hx
    rw [buildVs_map] at hx
    obtain ⟨k, hk, rfl⟩ := List.mem_map.1 hx
    exact ih k hk (he.kid hk) (okE_kid ho hk)
  · intro k v h1 h2 _ hv
    have := opName_len h1 h2
    exact ⟨by simp, by simp, by simp, trivial, ⟨by omega, hv⟩, trivial⟩
  · intro m hm hx
    exact ⟨by simp, hm, by simp, VsSm_of hx, trivial⟩
  · intro s hs _
    exact ⟨by omega, by simp, by simp, trivial, trivial⟩
  · intro h34 hl
    have hn := he.names
    refine ⟨by simp, by simp, by rw [zipF_length _ _ hl]; exact hn.1, trivial, FsSm_of ?_⟩
    intro f hf
    obtain ⟨hf1, hf2⟩ := zipF_mem hf
    obtain ⟨nm, vv⟩ := f
    refine F.Sm_mk (hn.2 _ hf1) ?_
    rw [buildVs_map] at hf2
    obtain ⟨k, hk, hkv⟩ := List.mem_map.1 hf2
    have := ih k hk (he.kid hk) (okE_kid ho hk)
    rw [hkv] at this
    exact this

theorem build_formed : ∀ e : E, okE e = true → e.Sm → (buildV e).formed wideB = true := by
  refine E.ind' ?_
  intro e ih ho he
  rw [buildV_eq]
  have hno := okE_node ho
  have hkid : ∀ x ∈ buildVs e.kids, x.formed wideB = true := by
    intro x hx
    rw [buildVs_map] at hx
    obtain ⟨k, hk, rfl⟩ := List.mem_map.1 hx
    exact ih k hk (okE_kid ho hk) (he.kid hk)
  refine bld_ind hno (buildVs_length _) he.kids hkid ?_ ?_ ?_ ?_ ?_
  · intro h1
    have := hno.arg h1
    simp only [validB, Bool.and_eq_true] at this
    exact formed_mono (fun s => nameB_wide) _ this.2.2
  · intro k v h1 h2 h3 hv
    have hw : wideB (opName k) = true := by
      rcases opName_wide h1 h2 with h | h
      · exact h
      · omega
    rw [formed_eq]
    show (headB 5 0 [] 0 1 && ([].all (V.formed wideB) && (apartB wideB [] [opName k] && [F.mk (opName k) v].all fun f => V.formed wideB f.value))) = true
    have e1 : apartB wideB [] [opName k] = true := by
      rw [apartB, hw]; rfl
    have e2 : ([F.mk (opName k) v].all fun f => V.formed wideB f.value) = true := by
      simp only [List.all_cons, List.all_nil, Bool.and_true]
      exact hv
    rw [e1, e2]
    rfl
  · intro m hm hx
    rw [formed_eq]
    show (headB 6 0 [] m.length 0 && (m.all (V.formed wideB) && (apartB wideB [] [] && [].all fun f => V.formed wideB (F.value f)))) = true
    have e1 : m.all (V.formed wideB) = true := List.all_eq_true.2 hx
    rw [e1]
    simp [headB, apartB]
  · intro s hs hl
    rw [formed_eq]
    show (headB 4 0 s 0 0 && ([].all (V.formed wideB) && (apartB wideB [] [] && [].all fun f => V.formed wideB (F.value f)))) = true
    have e1 := utf8_low s hl
    have e2 : decide (s.length ≤ 4096) = true := by simp; omega
    simp [headB, apartB, e1, e2]
  · intro h34 hl
    rw [formed_eq]
    show (headB 5 0 [] 0 (zipF e.names (buildVs e.kids)).length && ([].all (V.formed wideB) && (apartB wideB [] ((zipF e.names (buildVs e.kids)).map F.name) && (zipF e.names (buildVs e.kids)).all fun f => V.formed wideB f.value))) = true
    have e1 : apartB wideB [] ((zipF e.names (buildVs e.kids)).map F.name) = true := by
      rw [zipF_names hl]
      exact apart_mono (fun s => nameB_wide) _ _ (hno.names h34)
    have e2 : ((zipF e.names (buildVs e.kids)).all fun f => V.formed wideB f.value) = true := by
      rw [List.all_eq_true]
      intro f hf
      exact hkid _ (zipF_mem hf).2
    rw [e1, e2]
    simp [headB]

/-- What Build hands back. -/
def builtV (e : E) : V × Int := bif validE e != 0 then (V.zero, validE e) else bif !(validB wideB (buildV e)) then (V.zero, 2) else (buildV e, 0)
/-- Build -/
theorem c20 (W : ValidTold) (e : E) (he : e.Sm) : CallT 20 [.agg (cE e)] [] (.tup [.agg (cV (builtV e).1), .int .i64 (builtV e).2]) [] := by
  refine pureIs (M := ⟨false, 0⟩) (by kernel_rfl) (by simp) ?_
  rw [n20]
  refine ⟨_, pcIs (by kernel_rfl) (by simp) (c11 W e he), ?_⟩
  unfold builtV
  cases h1 : (validE e != 0) with
  | true => exact ⟨_, rfl, rfl⟩
  | false =>
    rw [cond_false, cond_false]
    have ho : okE e = true := chk_ok e 1 0 (by simpa [validE] using h1)
    have hsm := build_Sm e he ho
    have hfo := build_formed e ho he
    have hs := small_valid hfo
    refine ⟨_, _, _, _, _, _, _, pcIs (by kernel_rfl) (by simp) (c48 e he ho), _, _, c49 (buildV e) hsm 1 0 (by omega) (by omega), ?_⟩
    rw [hs]
    cases h2 : validB wideB (buildV e) with
    | false => exact ⟨_, rfl, rfl⟩
    | true =>
      rw [Bool.not_true, cond_false, cond_false]
      refine ⟨_, _, _, _, _, _, _, pcIs (by kernel_rfl) (by simp) (c45 (buildV e) hsm), _, ?_, rfl⟩
      exact er_cn (by simp)
/-- Build (the reference) -/
theorem c21 (U : Utf8Told) (e : E) (he : e.Sm) : CallT 21 [.agg (cE e)] [] (.tup [.agg (cV (builtV e).1), .int .i64 (builtV e).2]) [] := by
  refine pureIs (M := ⟨false, 0⟩) (by kernel_rfl) (by simp) ?_
  rw [n21]
  refine ⟨_, pcIs (by kernel_rfl) (by simp) (c12 U e he), ?_⟩
  unfold builtV
  cases h1 : (validE e != 0) with
  | true => exact ⟨_, rfl, rfl⟩
  | false =>
    rw [cond_false, cond_false]
    have ho : okE e = true := chk_ok e 1 0 (by simpa [validE] using h1)
    have hsm := build_Sm e he ho
    refine ⟨_, _, _, _, _, _, _, pcIs (by kernel_rfl) (by simp) (c50 e he ho), _, pcIs (by kernel_rfl) (by simp) (c46 U (buildV e) hsm), ?_⟩
    cases h2 : validB wideB (buildV e) with
    | false => exact ⟨_, rfl, rfl⟩
    | true =>
      rw [Bool.not_true, cond_false, cond_false]
      refine ⟨_, ?_, rfl⟩
      exact er_cn (by simp)
end Go.Proofs.YtdnhhdplcminlaaGreatDoor.AI

/- Count, and the law of Build. -/
set_option maxHeartbeats 1000000
set_option maxRecDepth 100000
set_option linter.unusedVariables false
set_option linter.unusedSimpArgs false
set_option linter.unusedSectionVars false
namespace Go.Proofs.YtdnhhdplcminlaaGreatDoor.AI
open Go

mutual
/-- The count of nodes, up to a limit, and of those with an item. -/
def cnt : E → Nat → Nat × Nat
  | .mk op _ _ _ _ _ ks, lim => cnts ks lim 1 (bif (bif op == 32 then true else op == 33) then 1 else 0)
def cnts : List E → Nat → Nat → Nat → Nat × Nat
  | [], _, n, m => (n, m)
  | k :: r, lim, n, m => bif decide (n < lim) then cnts r lim (n + (cnt k (lim - n)).1) (m + (cnt k (lim - n)).2) else (n, m)
end
theorem cnt_eq (e : E) (lim : Nat) : cnt e lim = cnts e.kids lim 1 (bif (bif e.op == 32 then true else e.op == 33) then 1 else 0) := by
  cases e; rfl
mutual
theorem cnt_le : ∀ (e : E) (lim : Nat), 1 ≤ lim → 1 ≤ (cnt e lim).1 ∧ (cnt e lim).1 ≤ lim ∧ (cnt e lim).2 ≤ (cnt e lim).1
  | .mk op p nm ns a m ks, lim, h => by
    rw [cnt]
    have h9 : (bif (bif op == 32 then true else op == 33) then 1 else 0) ≤ 1 := by
      cases (bif op == (32 : Int) then true else op == 33) <;> decide
    exact cnts_le ks lim 1 _ h (by omega) h9
theorem cnts_le : ∀ (l : List E) (lim n m : Nat), n ≤ lim → 1 ≤ n → m ≤ n → 1 ≤ (cnts l lim n m).1 ∧ (cnts l lim n m).1 ≤ lim ∧ (cnts l lim n m).2 ≤ (cnts l lim n m).1
  | [], lim, n, m, h1, h2, h3 => by rw [cnts]; exact ⟨h2, h1, h3⟩
  | k :: r, lim, n, m, h1, h2, h3 => by
    rw [cnts]
    by_cases hl : n < lim
    · have e1 : decide (n < lim) = true := by simpa using hl
      rw [e1, cond_true]
      have := cnt_le k (lim - n) (by omega)
      exact cnts_le r lim _ _ (by omega) (by omega) (by omega)
    · have e1 : decide (n < lim) = false := by simpa using hl
      rw [e1, cond_false]
      exact ⟨h2, h1, h3⟩
end
theorem cnts_stop (l : List E) (lim n m : Nat) (h : ¬ n < lim) : cnts l lim n m = (n, m) := by
  cases l with
  | nil => rfl
  | cons k r =>
    rw [cnts]
    have e1 : decide (n < lim) = false := by simpa using h
    rw [e1, cond_false]

theorem count_loop (e : E) (he : e.Sm) (lim : Nat) (hl1 : 1 ≤ lim) (hl2 : lim ≤ 100000) (ih : ∀ x ∈ e.kids, ∀ lim : Nat, 1 ≤ lim → lim ≤ 100000 → CallT 9 [.agg (cE x), .int .i64 (lim : Int)] [] (.tup [.int .i64 ((cnt x lim).1 : Int), .int .i64 ((cnt x lim).2 : Int)]) [])
    (h : Heap) (Q : AV → Prop) {k : Nat} (hk : k ≤ e.kids.length) : ∀ n m : Nat, 1 ≤ n → n ≤ lim → m ≤ n → Q (.tup [.int .i64 ((cnts (e.kids.drop k) lim n m).1 : Int), .int .i64 ((cnts (e.kids.drop k) lim n m).2 : Int)]) →
    LP 9 5 [.int .i64 (lim : Int), .box (cE e), .int .i64 (n : Int), .int .i64 (m : Int), .int .i64 (k : Int)] h Q := by
  refine up_to (P := fun k => ∀ n m : Nat, 1 ≤ n → n ≤ lim → m ≤ n → Q (.tup [.int .i64 ((cnts (e.kids.drop k) lim n m).1 : Int), .int .i64 ((cnts (e.kids.drop k) lim n m).2 : Int)]) →
    LP 9 5 [.int .i64 (lim : Int), .box (cE e), .int .i64 (n : Int), .int .i64 (m : Int), .int .i64 (k : Int)] h Q) ?_ ?_ hk
  · intro n m h1 h2 h3 hq
    refine labelIs ?_
    rw [l9_5]
    have hlt : decide ((e.kids.length : Int) < (e.kids.length : Int)) = false := by simp
    rw [hlt, cond_false, cond_false]
    rw [List.drop_length] at hq
    exact ⟨_, rfl, hq⟩
  · intro k hk1 ihk n m h1 h2 h3 hq
    have hkl := he.kids
    refine labelIs ?_
    rw [l9_5]
    have hlt : decide ((k : Int) < (e.kids.length : Int)) = true := by simpa using hk1
    rw [hlt, cond_true]
    have e2 : decide ((n : Int) < (lim : Int)) = decide (n < lim) := by rw [decide_eq_decide]; omega
    rw [e2]
    by_cases hn : n < lim
    · have e1 : decide (n < lim) = true := by simpa using hn
      rw [drop_get hk1, cnts, e1, cond_true] at hq
      rw [e1, cond_true, Int.toNat_natCast]
      have hc := cnt_le e.kids[k] (lim - n) (by omega)
      have hcall := ih _ (List.getElem_mem hk1) (lim - n) (by omega) (by omega)
      refine ⟨by omega, _, _, _, _, _, _, _, _, _, _, _, _, _, _, _, _, seg_E (List.getElem?_eq_getElem hk1), ((cnt e.kids[k] (lim - n)).1 : Int), ((cnt e.kids[k] (lim - n)).2 : Int), ?_, ?_⟩
      · have e3 : IntKind.i64.wrap ((lim : Int) - (n : Int)) = ((lim - n : Nat) : Int) := by rw [wrap_of (by omega)]; omega
        rw [e3]
        exact pcIs (by kernel_rfl) (by simp) hcall
      · have e4 : IntKind.i64.wrap ((n : Int) + ((cnt e.kids[k] (lim - n)).1 : Int)) = ((n + (cnt e.kids[k] (lim - n)).1 : Nat) : Int) := by rw [wrap_of (by omega)]; omega
        have e5 : IntKind.i64.wrap ((m : Int) + ((cnt e.kids[k] (lim - n)).2 : Int)) = ((m + (cnt e.kids[k] (lim - n)).2 : Nat) : Int) := by rw [wrap_of (by omega)]; omega
        have e6 : IntKind.i64.wrap ((k : Int) + 1) = ((k + 1 : Nat) : Int) := by rw [wrap_of (by omega)]; omega
        rw [e4, e5, e6]
        exact ihk _ _ (by omega) (by omega) (by omega) hq
    · have e1 : decide (n < lim) = false := by simpa using hn
      rw [cnts_stop _ _ _ _ hn] at hq
      rw [e1, cond_false]
      exact ⟨_, rfl, hq⟩
/-- Count -/
theorem c9 : ∀ e : E, e.Sm → ∀ lim : Nat, 1 ≤ lim → lim ≤ 100000 → CallT 9 [.agg (cE e), .int .i64 (lim : Int)] [] (.tup [.int .i64 ((cnt e lim).1 : Int), .int .i64 ((cnt e lim).2 : Int)]) [] := by
  refine E.ind' ?_
  intro e ih he lim h1 h2
  refine pureIs (M := ⟨false, 0⟩) (by kernel_rfl) (by simp) ?_
  rw [n9]
  have hloop := count_loop e he lim h1 h2 (fun x hx => ih x hx (he.kid hx)) [] (fun v => v = .tup [.int .i64 ((cnt e lim).1 : Int), .int .i64 ((cnt e lim).2 : Int)]) (Nat.zero_le _)
  have hc := cnt_eq e lim
  cases hb : (bif e.op == (32 : Int) then true else e.op == 33) with
  | true =>
    rw [hb, cond_true] at hc
    exact hloop 1 1 (by omega) (by omega) (by omega) (by rw [List.drop_zero, ← hc])
  | false =>
    rw [hb, cond_false] at hc
    exact hloop 1 0 (by omega) (by omega) (by omega) (by rw [List.drop_zero, ← hc])

/-- The awake check holds. -/
def AwakeTold : Prop := CallT 10 [] [] (.bool true) []

/-- The law of Build. -/
theorem c5 (W : ValidTold) (U : Utf8Told) (A : AwakeTold) (e : E) (he : e.Sm) : CallT 5 [.agg (cE e)] [] (.bool true) [] := by
  refine pureIs (M := ⟨false, 0⟩) (by kernel_rfl) (by simp) ?_
  rw [n5]
  have hb : (builtV e).1.Sm := by
    unfold builtV
    cases h1 : (validE e != 0) with
    | true => exact ⟨by simp, by simp, by simp, trivial, trivial⟩
    | false =>
      have ho : okE e = true := chk_ok e 1 0 (by simpa [validE] using h1)
      cases h2 : validB wideB (buildV e) with
      | false => exact ⟨by simp, by simp, by simp, trivial, trivial⟩
      | true => exact build_Sm e he ho
  refine ⟨_, _, pcIs (by kernel_rfl) (by simp) (c9 e he 501 (by omega) (by omega)), ?_⟩
  cases hd : decide (((cnt e 501).1 : Int) > 500) with
  | true => exact ⟨true, pcIs (by kernel_rfl) (by simp) A, rfl⟩
  | false =>
    rw [cond_false]
    refine ⟨_, _, _, _, _, _, _, _, pcIs (by kernel_rfl) (by simp) (c20 W e he), _, _, _, _, _, _, _, _, pcIs (by kernel_rfl) (by simp) (c21 U e he), true, pcIs (by kernel_rfl) (by simp) ?_, true, fun _ => pcIs (by kernel_rfl) (by simp) A, ?_⟩
    · have := c22 (builtV e).1 hb (builtV e).1 hb
      rw [sameV_refl] at this
      exact this
    · rw [cond_true]
      have : ((builtV e).2 == (builtV e).2) = true := by simp
      rw [this]
      rfl
end Go.Proofs.YtdnhhdplcminlaaGreatDoor.AI

/- UTF8 (the reference). -/
set_option maxHeartbeats 1000000
set_option maxRecDepth 100000
set_option linter.unusedVariables false
set_option linter.unusedSimpArgs false
set_option linter.unusedSectionVars false
namespace Go.Proofs.YtdnhhdplcminlaaGreatDoor.AI
open Go

def tailL (t : Str) (m : Nat) : Bool := decide (m ≤ t.length) && (t.take m).all cont

theorem tail_loop (s : Str) (hs : s.length ≤ 536870912) (i m : Nat) (him : i + m ≤ s.length) (h : Heap) (Q : AV → Prop) {k : Nat} (hk : k ≤ m) : Q (.bool ((((s.drop i).take m).drop k).all cont)) →
    LP 148 4 [.str s, .int .i64 (i : Int), .int .i64 (m : Int), .int .i64 (k : Int)] h Q := by
  refine up_to (P := fun k => Q (.bool ((((s.drop i).take m).drop k).all cont)) → LP 148 4 [.str s, .int .i64 (i : Int), .int .i64 (m : Int), .int .i64 (k : Int)] h Q) ?_ ?_ hk
  · intro hq
    refine labelIs ?_
    rw [l148_4]
    have hlt : decide ((m : Int) < (m : Int)) = false := by simp
    rw [hlt, cond_false]
    have : (((s.drop i).take m).drop m).all cont = true := by
      rw [List.drop_of_length_le (by rw [List.length_take]; omega)]; rfl
    rw [this] at hq
    exact hq
  · intro k hk1 ih hq
    refine labelIs ?_
    rw [l148_4]
    have hlt : decide ((k : Int) < (m : Int)) = true := by simpa using hk1
    have hw : IntKind.i64.wrap ((i : Int) + (k : Int)) = ((i + k : Nat) : Int) := by rw [wrap_of (by omega)]; omega
    rw [hlt, cond_true, hw, Int.toNat_natCast]
    have hkl : k < ((s.drop i).take m).length := by simp; omega
    rw [drop_get hkl, List.all_cons] at hq
    have hg : ((s.drop i).take m)[k] = s.getD (i + k) 0 := by
      have h9 : i + k < s.length := by omega
      simp [h9]
    rw [hg] at hq
    generalize s.getD (i + k) 0 = c at hq ⊢
    have hcond : (bif decide ((c.toNat : Int) < 128) then true else decide ((c.toNat : Int) > 191)) = !cont c := by
      unfold cont
      have e1 : decide ((c.toNat : Int) < 128) = !decide (128 ≤ c.toNat) := by rw [Bool.eq_iff_iff]; simp; omega
      have e2 : decide ((c.toNat : Int) > 191) = !decide (c.toNat ≤ 191) := by rw [Bool.eq_iff_iff]; simp; omega
      rw [e1, e2]
      cases decide (128 ≤ c.toNat) <;> cases decide (c.toNat ≤ 191) <;> rfl
    refine ⟨by omega, fun _ => by omega, ?_⟩
    rw [hcond]
    cases hc : cont c with
    | false =>
      rw [hc] at hq
      exact hq
    | true =>
      rw [hc, Bool.true_and] at hq
      rw [Bool.not_true, cond_false, wrap_of (by omega)]
      exact ih hq
theorem c148 (s : Str) (hs : s.length ≤ 536870912) (i m : Nat) (hi : i ≤ s.length) (hm : m ≤ 3) : CallT 148 [.str s, .int .i64 (i : Int), .int .i64 (m : Int)] [] (.bool (tailL (s.drop i) m)) [] := by
  refine pureIs (M := ⟨false, 0⟩) (by kernel_rfl) (by simp) ?_
  rw [n148, wrap_of (by omega)]
  unfold tailL
  by_cases h : i + m ≤ s.length
  · have e1 : decide (((i : Int) + (m : Int)) > (s.length : Int)) = false := by simp; omega
    have e2 : decide (m ≤ (s.drop i).length) = true := by simp; omega
    rw [e1, cond_false, e2, Bool.true_and]
    exact tail_loop s hs i m h _ _ (Nat.zero_le _) (by rw [List.drop_zero])
  · have e1 : decide (((i : Int) + (m : Int)) > (s.length : Int)) = true := by simp; omega
    have e2 : decide (m ≤ (s.drop i).length) = false := by simp; omega
    rw [e1, cond_true, e2]
    rfl

def limB (x y : Int) : Bool := !(bif bif bif bif x == 224 then decide (y < 160) else false then true else bif x == 237 then decide (y > 159) else false then true else bif x == 240 then decide (y < 144) else false then true else bif x == 244 then decide (y > 143) else false)
theorem limB_lim (b c : UInt8) : limB (b.toNat : Int) (c.toNat : Int) = lim b c := by
  unfold limB lim
  have e1 : ((b.toNat : Int) == 224) = (b.toNat == 224) := by rw [Bool.eq_iff_iff]; simp; omega
  have e2 : ((b.toNat : Int) == 237) = (b.toNat == 237) := by rw [Bool.eq_iff_iff]; simp; omega
  have e3 : ((b.toNat : Int) == 240) = (b.toNat == 240) := by rw [Bool.eq_iff_iff]; simp; omega
  have e4 : ((b.toNat : Int) == 244) = (b.toNat == 244) := by rw [Bool.eq_iff_iff]; simp; omega
  have f1 : decide ((c.toNat : Int) < 160) = decide (c.toNat < 160) := by rw [decide_eq_decide]; omega
  have f2 : decide ((c.toNat : Int) > 159) = decide (c.toNat > 159) := by rw [decide_eq_decide]; omega
  have f3 : decide ((c.toNat : Int) < 144) = decide (c.toNat < 144) := by rw [decide_eq_decide]; omega
  have f4 : decide ((c.toNat : Int) > 143) = decide (c.toNat > 143) := by rw [decide_eq_decide]; omega
  rw [e1, e2, e3, e4, f1, f2, f3, f4]
  generalize (b.toNat == 224) = a1
  generalize (b.toNat == 237) = a2
  generalize (b.toNat == 240) = a3
  generalize (b.toNat == 244) = a4
  generalize decide (c.toNat < 160) = b1
  generalize decide (c.toNat > 159) = b2
  generalize decide (c.toNat < 144) = b3
  generalize decide (c.toNat > 143) = b4
  revert a1 a2 a3 a4 b1 b2 b3 b4
  decide

theorem utf_key (x y : Int) (R F N : Prop) (tb : Bool) (hR : tb = true → (x = 224 ∨ x = 237 ∨ x = 240 ∨ x = 244) → R) (hF : (tb && limB x y) = false → F) (hN : (tb && limB x y) = true → N) :
    bif !tb then F
    else ((x == (224 : Int) && true) = true → R) ∧
      ((x == (237 : Int) && ((!bif x == (224 : Int) then decide (y < (160 : Int)) else false) && true)) = true → R) ∧
      ((x == (240 : Int) && ((!bif bif x == (224 : Int) then decide (y < (160 : Int)) else false then true else bif x == (237 : Int) then decide (y > (159 : Int)) else false) && true)) = true → R) ∧
      ((x == (244 : Int) && ((!bif bif bif x == (224 : Int) then decide (y < (160 : Int)) else false then true else bif x == (237 : Int) then decide (y > (159 : Int)) else false then true else bif x == (240 : Int) then decide (y < (144 : Int)) else false) && true)) = true → R) ∧
      bif bif bif bif bif x == (224 : Int) then decide (y < (160 : Int)) else false then true else bif x == (237 : Int) then decide (y > (159 : Int)) else false then true else bif x == (240 : Int) then decide (y < (144 : Int)) else false then true else bif x == (244 : Int) then decide (y > (143 : Int)) else false then F else N := by
  cases tb with
  | false => exact hF rfl
  | true =>
    rw [Bool.not_true, cond_false]
    have hR := hR rfl
    refine ⟨fun h => hR ?_, fun h => hR ?_, fun h => hR ?_, fun h => hR ?_, ?_⟩
    · simp only [Bool.and_eq_true, beq_iff_eq] at h; exact .inl h.1
    · simp only [Bool.and_eq_true, beq_iff_eq] at h; exact .inr (.inl h.1)
    · simp only [Bool.and_eq_true, beq_iff_eq] at h; exact .inr (.inr (.inl h.1))
    · simp only [Bool.and_eq_true, beq_iff_eq] at h; exact .inr (.inr (.inr h.1))
    · unfold limB at hF hN
      generalize (bif bif bif bif x == (224 : Int) then decide (y < (160 : Int)) else false then true else bif x == (237 : Int) then decide (y > (159 : Int)) else false then true else bif x == (240 : Int) then decide (y < (144 : Int)) else false then true else bif x == (244 : Int) then decide (y > (143 : Int)) else false) = q at hF hN ⊢
      cases q
      · exact hN rfl
      · exact hF rfl

theorem limB_no {x y : Int} (h : ¬(x = 224 ∨ x = 237 ∨ x = 240 ∨ x = 244)) : limB x y = true := by
  unfold limB
  have e1 : (x == 224) = false := by simp; omega
  have e2 : (x == 237) = false := by simp; omega
  have e3 : (x == 240) = false := by simp; omega
  have e4 : (x == 244) = false := by simp; omega
  rw [e1, e2, e3, e4]
  rfl

theorem utf8_case0 (b : UInt8) (t : Str) (h : b.toNat < 128) : utf8B (b :: t) = (tailL t 0 && utf8B t) := by
  have e : decide (b.toNat < 128) = true := by simpa using h
  rw [utf8B.eq_def]
  simp [e, tailL]
theorem utf8_case1 (b : UInt8) (t : Str) (h : 194 ≤ b.toNat ∧ b.toNat ≤ 223) : utf8B (b :: t) = (tailL t 1 && utf8B (t.drop 1)) := by
  have e : decide (b.toNat < 128) = false := by simp; omega
  have e2 : (decide (194 ≤ b.toNat) && decide (b.toNat ≤ 223)) = true := by simp; omega
  rw [utf8B.eq_def]
  cases t with
  | nil => simp [e, tailL]
  | cons c r => simp only [e, cond_false, e2, cond_true]; simp [tailL]
theorem utf8_case2 (b : UInt8) (t : Str) (h : 224 ≤ b.toNat ∧ b.toNat ≤ 239) : utf8B (b :: t) = (tailL t 2 && lim b (t.getD 0 0) && utf8B (t.drop 2)) := by
  have e : decide (b.toNat < 128) = false := by simp; omega
  have e2 : (decide (194 ≤ b.toNat) && decide (b.toNat ≤ 223)) = false := by simp; omega
  have e3 : (decide (224 ≤ b.toNat) && decide (b.toNat ≤ 239)) = true := by simp; omega
  rw [utf8B.eq_def]
  match t with
  | [] => simp [e, tailL]
  | [c] => simp only [e, cond_false, e2]; simp [tailL]
  | c :: d :: r => simp only [e, cond_false, e2, e3, cond_true]; simp [tailL, Bool.and_assoc]
theorem utf8_case3 (b : UInt8) (t : Str) (h : 240 ≤ b.toNat ∧ b.toNat ≤ 244) : utf8B (b :: t) = (tailL t 3 && lim b (t.getD 0 0) && utf8B (t.drop 3)) := by
  have e : decide (b.toNat < 128) = false := by simp; omega
  have e2 : (decide (194 ≤ b.toNat) && decide (b.toNat ≤ 223)) = false := by simp; omega
  have e3 : (decide (224 ≤ b.toNat) && decide (b.toNat ≤ 239)) = false := by simp; omega
  have e4 : (decide (240 ≤ b.toNat) && decide (b.toNat ≤ 244)) = true := by simp; omega
  rw [utf8B.eq_def]
  match t with
  | [] => simp [e, tailL]
  | [c] => simp only [e, cond_false, e2]; simp [tailL]
  | [c, d] => simp only [e, cond_false, e2, e3]; simp [tailL]
  | c :: d :: f :: r => simp only [e, cond_false, e2, e3, e4]; simp [tailL, Bool.and_assoc]
theorem utf8_case4 (b : UInt8) (t : Str) (h : ¬ b.toNat < 128) (h1 : ¬ (194 ≤ b.toNat ∧ b.toNat ≤ 223)) (h2 : ¬ (224 ≤ b.toNat ∧ b.toNat ≤ 239)) (h3 : ¬ (240 ≤ b.toNat ∧ b.toNat ≤ 244)) : utf8B (b :: t) = false := by
  have e : decide (b.toNat < 128) = false := by simp; omega
  have e2 : (decide (194 ≤ b.toNat) && decide (b.toNat ≤ 223)) = false := by simp; omega
  have e3 : (decide (224 ≤ b.toNat) && decide (b.toNat ≤ 239)) = false := by simp; omega
  have e4 : (decide (240 ≤ b.toNat) && decide (b.toNat ≤ 244)) = false := by simp; omega
  rw [utf8B.eq_def]
  match t with
  | [] => simp [e]
  | [c] => simp only [e, cond_false, e2]
  | [c, d] => simp only [e, cond_false, e2, e3]
  | c :: d :: f :: r => simp only [e, cond_false, e2, e3, e4, Bool.false_and]

theorem bif_and2 (a b : Bool) : (bif a then b else false) = (a && b) := by cases a <;> rfl
theorem utf8_loop (s : Str) (hs : s.length ≤ 536870912) (h : Heap) (Q : AV → Prop) : ∀ n k : Nat, k ≤ s.length → s.length - k ≤ n → Q (.bool (utf8B (s.drop k))) → LP 113 2 [.str s, .int .i64 (k : Int)] h Q := by
  intro n
  induction n with
  | zero =>
    intro k hk hn hq
    refine labelIs ?_
    rw [l113_2]
    have hlt : decide ((k : Int) < (s.length : Int)) = false := by simp; omega
    rw [hlt, cond_false]
    rw [List.drop_of_length_le (by omega)] at hq
    exact hq
  | succ n ih =>
    intro k hk hn hq
    refine labelIs ?_
    rw [l113_2]
    by_cases hkl : k < s.length
    · have hlt : decide ((k : Int) < (s.length : Int)) = true := by simpa using hkl
      have hw : IntKind.i64.wrap ((k : Int) + 1) = ((k + 1 : Nat) : Int) := by rw [wrap_of (by omega)]; omega
      rw [hlt, cond_true, hw, Int.toNat_natCast, Int.toNat_natCast]
      refine ⟨by omega, ?_⟩
      rw [drop_get hkl] at hq
      have hb : s.getD k 0 = s[k] := by simp [hkl]
      have hy : s.getD (k + 1) 0 = (s.drop (k + 1)).getD 0 0 := by simp
      rw [hb]
      generalize s[k] = b at hq ⊢
      have hR : ∀ m : Nat, 2 ≤ m → tailL (s.drop (k + 1)) m = true → (0 : Int) ≤ ((k + 1 : Nat) : Int) ∧ ((k + 1 : Nat) : Int) < (s.length : Int) := by
        intro m hm ht
        simp only [tailL, Bool.and_eq_true, decide_eq_true_eq, List.length_drop] at ht
        omega
      have hnx0 : IntKind.i64.wrap (IntKind.i64.wrap ((k : Int) + 0) + 1) = ((k + 1 + 0 : Nat) : Int) := by
        rw [wrap_of (n := (k : Int) + 0) (by omega), wrap_of (by omega)]; omega
      have hnx1 : IntKind.i64.wrap (((k + 1 : Nat) : Int) + 1) = ((k + 1 + 1 : Nat) : Int) := by
        rw [wrap_of (by omega)]; omega
      have hnx2 : IntKind.i64.wrap (IntKind.i64.wrap ((k : Int) + 2) + 1) = ((k + 1 + 2 : Nat) : Int) := by
        rw [wrap_of (n := (k : Int) + 2) (by omega), wrap_of (by omega)]; omega
      have hnx3 : IntKind.i64.wrap (IntKind.i64.wrap ((k : Int) + 3) + 1) = ((k + 1 + 3 : Nat) : Int) := by
        rw [wrap_of (n := (k : Int) + 3) (by omega), wrap_of (by omega)]; omega
      have hgo : ∀ m : Nat, m ≤ 3 → tailL (s.drop (k + 1)) m = true → Q (.bool (utf8B ((s.drop (k + 1)).drop m))) → LP 113 2 [.str s, .int .i64 ((k + 1 + m : Nat) : Int)] h Q := by
        intro m hm ht hq
        simp only [tailL, Bool.and_eq_true, decide_eq_true_eq, List.length_drop] at ht
        rw [List.drop_drop] at hq
        exact ih (k + 1 + m) (by omega) (by omega) hq
      have c0 := pcIs (by kernel_rfl) (by simp) (c148 s hs (k + 1) 0 (by omega) (by omega))
      have c1 := pcIs (by kernel_rfl) (by simp) (c148 s hs (k + 1) 1 (by omega) (by omega))
      have c2 := pcIs (by kernel_rfl) (by simp) (c148 s hs (k + 1) 2 (by omega) (by omega))
      have c3 := pcIs (by kernel_rfl) (by simp) (c148 s hs (k + 1) 3 (by omega) (by omega))
      have hl := limB_lim b (s.getD (k + 1) 0)
      rw [hy] at hl ⊢
      by_cases h1 : b.toNat < 128
      · have e1 : decide ((b.toNat : Int) < 128) = true := by simp; omega
        rw [e1, cond_true]
        rw [utf8_case0 b _ h1] at hq
        refine ⟨_, c0, utf_key _ _ _ _ _ _ (fun _ h9 => by omega) (fun h9 => ?_) (fun h9 => ?_)⟩
        · rw [limB_no (by omega), Bool.and_true] at h9
          rw [h9] at hq; exact hq
        · rw [limB_no (by omega), Bool.and_true] at h9
          rw [h9, Bool.true_and] at hq
          rw [hnx0]
          exact hgo 0 (by omega) h9 hq
      · have e1 : decide ((b.toNat : Int) < 128) = false := by simp; omega
        rw [e1, cond_false]
        by_cases h2 : 194 ≤ b.toNat ∧ b.toNat ≤ 223
        · have e2 : (bif decide ((b.toNat : Int) ≥ 194) then decide ((b.toNat : Int) ≤ 223) else false) = true := by
            rw [bif_and2]; simp; omega
          rw [e2, cond_true]
          rw [utf8_case1 b _ h2] at hq
          refine ⟨_, c1, utf_key _ _ _ _ _ _ (fun _ h9 => by omega) (fun h9 => ?_) (fun h9 => ?_)⟩
          · rw [limB_no (by omega), Bool.and_true] at h9
            rw [h9] at hq; exact hq
          · rw [limB_no (by omega), Bool.and_true] at h9
            rw [h9, Bool.true_and] at hq
            rw [hnx1]
            exact hgo 1 (by omega) h9 hq
        · have e2 : (bif decide ((b.toNat : Int) ≥ 194) then decide ((b.toNat : Int) ≤ 223) else false) = false := by
            rw [bif_and2]; simp; omega
          rw [e2, cond_false]
          by_cases h3 : 224 ≤ b.toNat ∧ b.toNat ≤ 239
          · have e3 : (bif decide ((b.toNat : Int) ≥ 224) then decide ((b.toNat : Int) ≤ 239) else false) = true := by
              rw [bif_and2]; simp; omega
            rw [e3, cond_true]
            rw [utf8_case2 b _ h3, ← hl] at hq
            refine ⟨_, c2, utf_key _ _ _ _ _ _ (fun ht h9 => hR 2 (by omega) ht) (fun h9 => ?_) (fun h9 => ?_)⟩
            · rw [h9] at hq; exact hq
            · rw [h9, Bool.true_and] at hq
              rw [hnx2]
              exact hgo 2 (by omega) (Bool.and_eq_true_iff.1 h9).1 hq
          · have e3 : (bif decide ((b.toNat : Int) ≥ 224) then decide ((b.toNat : Int) ≤ 239) else false) = false := by
              rw [bif_and2]; simp; omega
            rw [e3, cond_false]
            by_cases h4 : 240 ≤ b.toNat ∧ b.toNat ≤ 244
            · have e4 : (bif decide ((b.toNat : Int) ≥ 240) then decide ((b.toNat : Int) ≤ 244) else false) = true := by
                rw [bif_and2]; simp; omega
              rw [e4, cond_true]
              rw [utf8_case3 b _ h4, ← hl] at hq
              refine ⟨_, c3, utf_key _ _ _ _ _ _ (fun ht h9 => hR 3 (by omega) ht) (fun h9 => ?_) (fun h9 => ?_)⟩
              · rw [h9] at hq; exact hq
              · rw [h9, Bool.true_and] at hq
                rw [hnx3]
                exact hgo 3 (by omega) (Bool.and_eq_true_iff.1 h9).1 hq
            · have e4 : (bif decide ((b.toNat : Int) ≥ 240) then decide ((b.toNat : Int) ≤ 244) else false) = false := by
                rw [bif_and2]; simp; omega
              rw [e4, cond_false]
              rw [utf8_case4 b _ h1 h2 h3 h4] at hq
              exact hq
    · have hlt : decide ((k : Int) < (s.length : Int)) = false := by simp; omega
      rw [hlt, cond_false]
      rw [List.drop_of_length_le (by omega)] at hq
      exact hq
/-- UTF8 (the reference) -/
theorem utf8_told (s : Str) (hs : s.length ≤ 536870912) : CallT 113 [.str s] [] (.bool (utf8B s)) [] := by
  refine pureIs (M := ⟨false, 0⟩) (by kernel_rfl) (by simp) ?_
  rw [n113]
  exact utf8_loop s hs _ _ s.length 0 (Nat.zero_le _) (by omega) rfl
end Go.Proofs.YtdnhhdplcminlaaGreatDoor.AI

/- utf8.ValidString: words of eight bytes, tables. -/
set_option maxHeartbeats 1000000
set_option maxRecDepth 100000
set_option linter.unusedVariables false
set_option linter.unusedSimpArgs false
set_option linter.unusedSectionVars false
namespace Go.Proofs.YtdnhhdplcminlaaGreatDoor.AI
open Go

theorem wrapu (x : BitVec (IntKind.bits .u64)) : IntKind.wrap .u64 ((x.toNat : Nat) : Int) = (x.toNat : Int) := by
  have h : x.toNat < 18446744073709551616 := x.isLt
  have e1 : (2 : Int) ^ 64 = 18446744073709551616 := by decide
  have e2 : (2 : Int) ^ (64 - 1) = 9223372036854775808 := by decide
  simp only [IntKind.wrap, IntKind.bits, IntKind.signed, Bool.false_and, e1]
  simp
  omega
theorem ofIntu (x : BitVec (IntKind.bits .u64)) : BitVec.ofInt (IntKind.bits .u64) ((x.toNat : Nat) : Int) = x := by
  rw [BitVec.ofInt_natCast]
  apply BitVec.eq_of_toNat_eq
  simp
def byteW (b : UInt8) (k : Nat) : BitVec (IntKind.bits .u64) := BitVec.ofInt (IntKind.bits .u64) (IntKind.wrap .u64 (IntKind.wrap .u64 ((b.toNat : Nat) : Int) * (2 : Int) ^ min (Int.toNat (k : Int)) (IntKind.bits .u64)))
def wordW (s : Str) : BitVec (IntKind.bits .u64) :=
  BitVec.ofInt (IntKind.bits .u64) (IntKind.wrap .u64 (((s.getD 0 0).toNat : Nat) : Int)) ||| byteW (s.getD 1 0) 8 ||| byteW (s.getD 2 0) 16 ||| byteW (s.getD 3 0) 24 ||| byteW (s.getD 4 0) 32 ||| byteW (s.getD 5 0) 40 ||| byteW (s.getD 6 0) 48 ||| byteW (s.getD 7 0) 56
theorem c178 (s : Str) (h : 8 ≤ s.length) : CallT 178 [.str s] [] (.int .u64 ((wordW s).toNat : Int)) [] := by
  refine pureIs (M := ⟨false, 0⟩) (by kernel_rfl) (by simp) ?_
  rw [n178]
  simp only [ofIntu, wrapu]
  refine ⟨by omega, by omega, by omega, by omega, by omega, by omega, by omega, by omega, by omega, by omega, by omega, by omega, by omega, by omega, by omega, ?_⟩
  rfl
theorem wrapb (b : UInt8) (k : Nat) (hk : k ≤ 56) : IntKind.wrap .u64 (((b.toNat : Nat) : Int) * (2 : Int) ^ k) = ((b.toNat * 2 ^ k : Nat) : Int) := by
  have h : b.toNat < 256 := b.toNat_lt
  have h2 : b.toNat * 2 ^ k < 18446744073709551616 := by
    have : 2 ^ k ≤ 2 ^ 56 := Nat.pow_le_pow_right (by omega) hk
    calc b.toNat * 2 ^ k ≤ 255 * 2 ^ 56 := Nat.mul_le_mul (by omega) this
      _ < _ := by decide
  have e1 : (2 : Int) ^ 64 = 18446744073709551616 := by decide
  have e3 : ((b.toNat : Nat) : Int) * (2 : Int) ^ k = ((b.toNat * 2 ^ k : Nat) : Int) := by simp
  rw [e3]
  simp only [IntKind.wrap, IntKind.bits, IntKind.signed, Bool.false_and, e1]
  simp only [Bool.false_eq_true, if_false]
  omega
theorem byte_bit (b : UInt8) (k : Nat) (hk : k ≤ 56) : (byteW b k).getLsbD (k + 7) = b.toNat.testBit 7 := by
  unfold byteW
  have e0 := wrapb b 0 (by omega)
  simp only [Int.pow_zero, Int.mul_one, Nat.pow_zero, Nat.mul_one] at e0
  have e4 : min (Int.toNat (k : Int)) (IntKind.bits .u64) = k := by
    simp only [Int.toNat_natCast, IntKind.bits]; omega
  rw [e0, e4, wrapb b k hk, BitVec.ofInt_natCast, BitVec.getLsbD_ofNat, Nat.mul_comm]
  have e5 : decide (k + 7 < IntKind.bits .u64) = true := by
    show decide (k + 7 < 64) = true
    rw [decide_eq_true_eq]; omega
  rw [e5, Bool.true_and, Nat.testBit_two_pow_mul]
  simp
theorem byte0_bit (b : UInt8) : (BitVec.ofInt (IntKind.bits .u64) (IntKind.wrap .u64 ((b.toNat : Nat) : Int))).getLsbD 7 = b.toNat.testBit 7 := by
  have e0 := wrapb b 0 (by omega)
  simp only [Int.pow_zero, Int.mul_one, Nat.pow_zero, Nat.mul_one] at e0
  rw [e0, BitVec.ofInt_natCast, BitVec.getLsbD_ofNat]
  have e5 : decide (7 < IntKind.bits .u64) = true := by decide
  rw [e5, Bool.true_and]

def maskW : BitVec (IntKind.bits .u64) := BitVec.ofInt (IntKind.bits .u64) (9259542123273814144 : Int)
theorem low7 (n : Nat) (h : n < 256) (hb : n.testBit 7 = false) : n < 128 := by
  have : ∀ m : Fin 256, m.val.testBit 7 = false → m.val < 128 := by decide +kernel
  exact this ⟨n, h⟩ hb
theorem mask_bit (i : Nat) (h : i < 8) : maskW.getLsbD (8 * i + 7) = true := by
  have : ∀ i : Fin 8, maskW.getLsbD (8 * i.val + 7) = true := by decide +kernel
  exact this ⟨i, h⟩

/-- The first eight bytes are low. -/
theorem word_low {s : Str} (h8 : 8 ≤ s.length) (h : wordW s &&& maskW = 0) : ((s.take 8).all fun b => decide (b.toNat < 128)) = true := by
  have bit : ∀ i : Nat, i < 8 → (wordW s).getLsbD (8 * i + 7) = false := by
    intro i hi
    have : (wordW s &&& maskW).getLsbD (8 * i + 7) = false := by rw [h]; simp
    rw [BitVec.getLsbD_and, mask_bit i hi, Bool.and_true] at this
    exact this
  have b0 := bit 0 (by omega)
  have b1 := bit 1 (by omega)
  have b2 := bit 2 (by omega)
  have b3 := bit 3 (by omega)
  have b4 := bit 4 (by omega)
  have b5 := bit 5 (by omega)
  have b6 := bit 6 (by omega)
  have b7 := bit 7 (by omega)
  simp only [wordW, BitVec.getLsbD_or, Bool.or_eq_false_iff] at b0 b1 b2 b3 b4 b5 b6 b7
  have t0 := b0.1.1.1.1.1.1.1
  have t1 := b1.1.1.1.1.1.1.2
  have t2 := b2.1.1.1.1.1.2
  have t3 := b3.1.1.1.1.2
  have t4 := b4.1.1.1.2
  have t5 := b5.1.1.2
  have t6 := b6.1.2
  have t7 := b7.2
  rw [show 8 * 0 + 7 = 7 from rfl, byte0_bit] at t0
  rw [show 8 * 1 + 7 = 8 + 7 from rfl, byte_bit _ _ (by omega)] at t1
  rw [show 8 * 2 + 7 = 16 + 7 from rfl, byte_bit _ _ (by omega)] at t2
  rw [show 8 * 3 + 7 = 24 + 7 from rfl, byte_bit _ _ (by omega)] at t3
  rw [show 8 * 4 + 7 = 32 + 7 from rfl, byte_bit _ _ (by omega)] at t4
  rw [show 8 * 5 + 7 = 40 + 7 from rfl, byte_bit _ _ (by omega)] at t5
  rw [show 8 * 6 + 7 = 48 + 7 from rfl, byte_bit _ _ (by omega)] at t6
  rw [show 8 * 7 + 7 = 56 + 7 from rfl, byte_bit _ _ (by omega)] at t7
  match s, h8 with
  | c0 :: c1 :: c2 :: c3 :: c4 :: c5 :: c6 :: c7 :: r, _ =>
    simp only [List.take_succ_cons, List.take_zero, List.all_cons, List.all_nil, Bool.and_true, Bool.and_eq_true, decide_eq_true_eq]
    exact ⟨low7 _ c0.toNat_lt t0, low7 _ c1.toNat_lt t1, low7 _ c2.toNat_lt t2, low7 _ c3.toNat_lt t3, low7 _ c4.toNat_lt t4, low7 _ c5.toNat_lt t5, low7 _ c6.toNat_lt t6, low7 _ c7.toNat_lt t7⟩
theorem mask_zero {x : BitVec (IntKind.bits .u64)} (h : (IntKind.wrap .u64 (((x &&& maskW).toNat : Nat) : Int) == (0 : Int)) = true) : x &&& maskW = 0 := by
  rw [wrapu] at h
  have h : ((x &&& maskW).toNat : Int) = 0 := by simpa using h
  apply BitVec.eq_of_toNat_eq
  have h : (x &&& maskW).toNat = 0 := by omega
  rw [h]
  rfl
theorem mask_or {x y : BitVec (IntKind.bits .u64)} (h : (x ||| y) &&& maskW = 0) : x &&& maskW = 0 ∧ y &&& maskW = 0 := by
  have bit : ∀ i : Nat, ((x ||| y) &&& maskW).getLsbD i = false := by intro i; rw [h]; simp
  constructor
  · apply BitVec.eq_of_getLsbD_eq
    intro i hi
    have := bit i
    simp only [BitVec.getLsbD_and, BitVec.getLsbD_or] at this ⊢
    cases hx : x.getLsbD i <;> cases hm : maskW.getLsbD i <;> simp [hx, hm] at this ⊢
  · apply BitVec.eq_of_getLsbD_eq
    intro i hi
    have := bit i
    simp only [BitVec.getLsbD_and, BitVec.getLsbD_or] at this ⊢
    cases hx : y.getLsbD i <;> cases hm : maskW.getLsbD i <;> simp [hx, hm] at this ⊢

theorem utf8_skip : ∀ (k : Nat) (s : Str), ((s.take k).all fun b => decide (b.toNat < 128)) = true → utf8B s = utf8B (s.drop k)
  | 0, s, _ => rfl
  | k + 1, [], _ => rfl
  | k + 1, b :: r, h => by
    rw [List.take_succ_cons, List.all_cons, Bool.and_eq_true] at h
    have e : utf8B (b :: r) = utf8B r := by
      rw [utf8B.eq_def]
      simp only [h.1, cond_true]
    rw [e, List.drop_succ_cons]
    exact utf8_skip k r h.2
end Go.Proofs.YtdnhhdplcminlaaGreatDoor.AI

/- utf8.ValidString: what it answers. -/
set_option maxHeartbeats 1000000
set_option maxRecDepth 100000
set_option linter.unusedVariables false
set_option linter.unusedSimpArgs false
set_option linter.unusedSectionVars false
namespace Go.Proofs.YtdnhhdplcminlaaGreatDoor.AI
open Go

def szI (i5 : Int) : Int := IntKind.wrap IntKind.i64 (IntKind.wrap IntKind.u8 (((BitVec.ofInt (IntKind.bits IntKind.u8) i5 &&& BitVec.ofInt (IntKind.bits IntKind.u8) (7 : Int)).toNat : Nat) : Int))
def clsB (x : Nat) (sz lo hi : Int) : Bool :=
  bif decide (x < 128) then true
  else bif decide (194 ≤ x) && decide (x ≤ 223) then sz == 2 && (lo == 128 && hi == 191)
  else bif decide (224 ≤ x) && decide (x ≤ 239) then sz == 3 && ((lo == bif (x == 224) then 160 else 128) && (hi == bif (x == 237) then 159 else 191))
  else bif decide (240 ≤ x) && decide (x ≤ 244) then sz == 4 && ((lo == bif (x == 240) then 144 else 128) && (hi == bif (x == 244) then 143 else 191))
  else sz == 1
noncomputable def chkRow (x : Nat) : Bool :=
  match seg (gT cfg 2) (0 + x * 1) 1 with
  | some [.int .u8 i5] => decide (0 ≤ Int.fdiv i5 16) && (decide (Int.fdiv i5 16 < 16) && (match seg (gT cfg 3) (0 + (Int.fdiv i5 16).toNat * 2) 2 with
    | some [.int .u8 i6, .int .u8 i7] => clsB x (szI i5) i6 i7
    | _ => false))
  | _ => false
theorem rows_ok : (List.range 256).all chkRow = true := by kernel_rfl
theorem row_of {x : Nat} (hx : x < 256) : ∃ i5 : Int, seg (gT cfg 2) (0 + x * 1) 1 = some [.int .u8 i5] ∧ (0 ≤ Int.fdiv i5 16 ∧ Int.fdiv i5 16 < 16) ∧ ∃ i6 i7 : Int, seg (gT cfg 3) (0 + (Int.fdiv i5 16).toNat * 2) 2 = some [.int .u8 i6, .int .u8 i7] ∧ clsB x (szI i5) i6 i7 = true := by
  have h := List.all_eq_true.1 rows_ok x (by simpa using hx)
  unfold chkRow at h
  split at h <;> try cases h
  rename_i i5 h5
  simp only [Bool.and_eq_true, decide_eq_true_eq] at h
  obtain ⟨ha, hb, h⟩ := h
  split at h <;> try cases h
  rename_i i6 i7 h6
  exact ⟨i5, h5, ⟨ha, hb⟩, i6, i7, h6, h⟩
theorem cls2 {x : Nat} {sz lo hi : Int} (h : clsB x sz lo hi = true) (hx : 194 ≤ x ∧ x ≤ 223) : sz = 2 ∧ lo = 128 ∧ hi = 191 := by
  unfold clsB at h
  have e1 : decide (x < 128) = false := by simp; omega
  have e2 : (decide (194 ≤ x) && decide (x ≤ 223)) = true := by simp; omega
  rw [e1, cond_false, e2, cond_true] at h
  simpa using h
theorem blt_no {x : Nat} (h : 128 ≤ x) : decide (x < 128) = false := by simp; omega
theorem cls3 {x : Nat} {sz lo hi : Int} (h : clsB x sz lo hi = true) (hx : 224 ≤ x ∧ x ≤ 239) : sz = 3 ∧ lo = (bif (x == 224) then 160 else 128) ∧ hi = (bif (x == 237) then 159 else 191) := by
  unfold clsB at h
  have e2 : (decide (194 ≤ x) && decide (x ≤ 223)) = false := by simp; omega
  have e3 : (decide (224 ≤ x) && decide (x ≤ 239)) = true := by simp; omega
  rw [blt_no (by omega), cond_false, e2, cond_false, e3, cond_true] at h
  simpa using h
theorem cls4 {x : Nat} {sz lo hi : Int} (h : clsB x sz lo hi = true) (hx : 240 ≤ x ∧ x ≤ 244) : sz = 4 ∧ lo = (bif (x == 240) then 144 else 128) ∧ hi = (bif (x == 244) then 143 else 191) := by
  unfold clsB at h
  have e2 : (decide (194 ≤ x) && decide (x ≤ 223)) = false := by simp; omega
  have e3 : (decide (224 ≤ x) && decide (x ≤ 239)) = false := by simp; omega
  have e4 : (decide (240 ≤ x) && decide (x ≤ 244)) = true := by simp; omega
  rw [blt_no (by omega), cond_false, e2, cond_false, e3, cond_false, e4, cond_true] at h
  simpa using h
theorem cls1 {x : Nat} {sz lo hi : Int} (h : clsB x sz lo hi = true) (h0 : 128 ≤ x) (h1 : ¬ (194 ≤ x ∧ x ≤ 223)) (h2 : ¬ (224 ≤ x ∧ x ≤ 239)) (h3 : ¬ (240 ≤ x ∧ x ≤ 244)) : sz = 1 := by
  unfold clsB at h
  have e2 : (decide (194 ≤ x) && decide (x ≤ 223)) = false := by simp; omega
  have e3 : (decide (224 ≤ x) && decide (x ≤ 239)) = false := by simp; omega
  have e4 : (decide (240 ≤ x) && decide (x ≤ 244)) = false := by simp; omega
  rw [blt_no (by omega), cond_false, e2, cond_false, e3, cond_false, e4, cond_false] at h
  simpa using h

theorem cont_bad (c : UInt8) : (bif decide (((c.toNat : Nat) : Int) < 128) then true else decide ((191 : Int) < ((c.toNat : Nat) : Int))) = !cont c := by
  unfold cont
  have e1 : decide (((c.toNat : Nat) : Int) < 128) = !decide (128 ≤ c.toNat) := by rw [Bool.eq_iff_iff]; simp; omega
  have e2 : decide ((191 : Int) < ((c.toNat : Nat) : Int)) = !decide (c.toNat ≤ 191) := by rw [Bool.eq_iff_iff]; simp; omega
  rw [e1, e2]
  cases decide (128 ≤ c.toNat) <;> cases decide (c.toNat ≤ 191) <;> rfl
theorem lim_bad3 (b c : UInt8) (h : 224 ≤ b.toNat ∧ b.toNat ≤ 239) : (bif decide (((c.toNat : Nat) : Int) < (bif (b.toNat == 224) then 160 else 128)) then true else decide ((bif (b.toNat == 237) then 159 else 191) < ((c.toNat : Nat) : Int))) = !(cont c && lim b c) := by
  have g1 : (b.toNat == 240) = false := by simp; omega
  have g2 : (b.toNat == 244) = false := by simp; omega
  unfold cont lim
  rw [g1, g2]
  cases h1 : (b.toNat == 224) with
  | true =>
    have h1 : b.toNat = 224 := by simpa using h1
    have h2 : (b.toNat == 237) = false := by simp; omega
    rw [h2, cond_true, cond_false, Bool.eq_iff_iff]
    simp
    omega
  | false =>
    cases h2 : (b.toNat == 237) with
    | true =>
      rw [cond_true, cond_false, Bool.eq_iff_iff]
      simp
      omega
    | false =>
      rw [cond_false, cond_false, Bool.eq_iff_iff]
      simp
      omega
theorem lim_bad4 (b c : UInt8) (h : 240 ≤ b.toNat ∧ b.toNat ≤ 244) : (bif decide (((c.toNat : Nat) : Int) < (bif (b.toNat == 240) then 144 else 128)) then true else decide ((bif (b.toNat == 244) then 143 else 191) < ((c.toNat : Nat) : Int))) = !(cont c && lim b c) := by
  have g1 : (b.toNat == 224) = false := by simp; omega
  have g2 : (b.toNat == 237) = false := by simp; omega
  unfold cont lim
  rw [g1, g2]
  cases h1 : (b.toNat == 240) with
  | true =>
    have h1 : b.toNat = 240 := by simpa using h1
    have h2 : (b.toNat == 244) = false := by simp; omega
    rw [h2, cond_true, cond_false, Bool.eq_iff_iff]
    simp
    omega
  | false =>
    cases h2 : (b.toNat == 244) with
    | true =>
      rw [cond_true, cond_false, Bool.eq_iff_iff]
      simp
      omega
    | false =>
      rw [cond_false, cond_false, Bool.eq_iff_iff]
      simp
      omega
end Go.Proofs.YtdnhhdplcminlaaGreatDoor.AI

/- utf8.ValidString: the loops. -/
set_option maxHeartbeats 1000000
set_option maxRecDepth 100000
set_option linter.unusedVariables false
set_option linter.unusedSimpArgs false
set_option linter.unusedSectionVars false
namespace Go.Proofs.YtdnhhdplcminlaaGreatDoor.AI
open Go

theorem mask_zero' {x : BitVec (IntKind.bits .u64)} (h : ((((x &&& maskW).toNat : Nat) : Int) == (0 : Int)) = true) : x &&& maskW = 0 := mask_zero (by rw [wrapu]; exact h)
theorem tdrop (k : Nat) (s : Str) : List.take (s.length - k) (s.drop k) = s.drop k := List.take_of_length_le (by simp)

/-- What stands in for a walk from here on. -/
def Ends (r : Nat) (s : Str) : Prop := ∀ (h : Heap) (Q : AV → Prop), Q (.bool (utf8B s)) → LP 168 r [.str s] h Q

theorem valid_high {b : UInt8} {t : Str} (hb : ¬ b.toNat < 128) (ih : ∀ u : Str, u.length ≤ t.length → Ends 1 u) : Ends 1 (b :: t) := by
  intro h Q hq
  refine labelIs ?_
  rw [l168_1]
  have hlt : decide (((b :: t).length : Int) > (0 : Int)) = true := by simp
  have e0 : (b :: t).getD (Int.toNat (0 : Int)) 0 = b := rfl
  have e0' : (b :: t).getD 0 0 = b := rfl
  have e1 : decide (((b.toNat : Nat) : Int) < (128 : Int)) = false := by simp; omega
  rw [hlt, cond_true, e0, e1, cond_false, e0']
  obtain ⟨i5, h5, hf, i6, i7, h67, hc⟩ := row_of b.toNat_lt
  have hx := b.toNat_lt
  refine ⟨by simp, by omega, i5, by rw [Int.toNat_natCast]; exact h5, by omega, hf, i6, i7, h67, ?_⟩
  by_cases h2 : 194 ≤ b.toNat ∧ b.toNat ≤ 223
  · obtain ⟨hs, rfl, rfl⟩ := cls2 hc h2
    unfold szI at hs
    rw [hs]
    have es : ((2 : Int) == 2) = true := rfl
    rw [es, cond_true]
    rw [utf8_case1 b _ h2] at hq
    match t, ih with
    | [], ih =>
      have hd : decide ((([b] : Str).length : Int) < (2 : Int)) = true := rfl
      simp only [hd, cond_true, Bool.not_true, Bool.false_and, Bool.false_eq_true, false_imp_iff, true_and]
      exact hq
    | c :: r, ih =>
      have hd : decide (((b :: c :: r).length : Int) < (2 : Int)) = false := by simp; omega
      have hc1 : (b :: c :: r).getD (Int.toNat (1 : Int)) 0 = c := rfl
      have hl : (((b :: c :: r).length : Nat) : Int) = (r.length : Int) + 2 := by simp; omega
      refine ⟨fun _ => by omega, fun _ => by omega, ?_⟩
      simp only [hd, cond_false, hc1, cont_bad]
      have ht : tailL (c :: r) 1 = cont c := by simp [tailL]
      rw [ht] at hq
      cases hcc : cont c with
      | false => rw [hcc] at hq; exact hq
      | true =>
        rw [hcc, Bool.true_and] at hq
        rw [Bool.not_true, cond_false, tdrop]
        exact ⟨⟨trivial, by omega, by omega⟩, ih r (by simp) h Q hq⟩
  · by_cases h3 : 224 ≤ b.toNat ∧ b.toNat ≤ 239
    · obtain ⟨hs, hlo, hhi⟩ := cls3 hc h3
      unfold szI at hs
      rw [hs]
      have es : ((3 : Int) == 2) = false := rfl
      have es' : ((3 : Int) == 3) = true := rfl
      rw [es, cond_false, es', cond_true]
      rw [utf8_case2 b _ h3] at hq
      match t, ih with
      | [], ih =>
        have hd : decide ((([b] : Str).length : Int) < (3 : Int)) = true := rfl
        simp only [hd, cond_true, Bool.not_true, Bool.false_and, Bool.false_eq_true, false_imp_iff, true_and]
        exact hq
      | [c], ih =>
        have hd : decide ((([b, c] : Str).length : Int) < (3 : Int)) = true := rfl
        simp only [hd, cond_true, Bool.not_true, Bool.false_and, Bool.false_eq_true, false_imp_iff, true_and]
        exact hq
      | c :: d :: r, ih =>
        have hd : decide (((b :: c :: d :: r).length : Int) < (3 : Int)) = false := by simp; omega
        have hc1 : (b :: c :: d :: r).getD (Int.toNat (1 : Int)) 0 = c := rfl
        have hc2 : (b :: c :: d :: r).getD (Int.toNat (2 : Int)) 0 = d := rfl
        have hl : (((b :: c :: d :: r).length : Nat) : Int) = (r.length : Int) + 3 := by simp; omega
        refine ⟨fun _ => by omega, fun _ => by omega, fun _ => by omega, fun _ => by omega, ?_⟩
        simp only [hd, cond_false, hc1, hc2]
        have hlb := lim_bad3 b c h3
        rw [← hlo, ← hhi] at hlb
        rw [hlb]
        have ht : (tailL (c :: d :: r) 2 && lim b ((c :: d :: r).getD 0 0)) = ((cont c && lim b c) && cont d) := by
          simp [tailL]
          cases cont c <;> cases cont d <;> simp
        rw [ht] at hq
        cases hcl : (cont c && lim b c) with
        | false =>
          rw [hcl] at hq
          rw [Bool.not_false, cond_true, cond_true]
          exact hq
        | true =>
          rw [hcl, Bool.true_and] at hq
          rw [Bool.not_true, cond_false, cont_bad]
          cases hcd : cont d with
          | false => rw [hcd] at hq; exact hq
          | true =>
            rw [hcd, Bool.true_and] at hq
            rw [Bool.not_true, cond_false, tdrop]
            exact ⟨⟨trivial, by omega, by omega⟩, ih r (by simp; omega) h Q hq⟩
    · by_cases h4 : 240 ≤ b.toNat ∧ b.toNat ≤ 244
      · obtain ⟨hs, hlo, hhi⟩ := cls4 hc h4
        unfold szI at hs
        rw [hs]
        have es : ((4 : Int) == 2) = false := rfl
        have es' : ((4 : Int) == 3) = false := rfl
        have es'' : ((4 : Int) == 4) = true := rfl
        rw [es, cond_false, es', cond_false, es'', cond_true]
        rw [utf8_case3 b _ h4] at hq
        match t, ih with
        | [], ih =>
          have hd : decide ((([b] : Str).length : Int) < (4 : Int)) = true := rfl
          simp only [hd, cond_true, Bool.not_true, Bool.false_and, Bool.false_eq_true, false_imp_iff, true_and]
          exact hq
        | [c], ih =>
          have hd : decide ((([b, c] : Str).length : Int) < (4 : Int)) = true := rfl
          simp only [hd, cond_true, Bool.not_true, Bool.false_and, Bool.false_eq_true, false_imp_iff, true_and]
          exact hq
        | [c, d], ih =>
          have hd : decide ((([b, c, d] : Str).length : Int) < (4 : Int)) = true := rfl
          simp only [hd, cond_true, Bool.not_true, Bool.false_and, Bool.false_eq_true, false_imp_iff, true_and]
          exact hq
        | c :: d :: f :: r, ih =>
          have hd : decide (((b :: c :: d :: f :: r).length : Int) < (4 : Int)) = false := by simp; omega
          have hc1 : (b :: c :: d :: f :: r).getD (Int.toNat (1 : Int)) 0 = c := rfl
          have hc2 : (b :: c :: d :: f :: r).getD (Int.toNat (2 : Int)) 0 = d := rfl
          have hc3 : (b :: c :: d :: f :: r).getD (Int.toNat (3 : Int)) 0 = f := rfl
          have hl : (((b :: c :: d :: f :: r).length : Nat) : Int) = (r.length : Int) + 4 := by simp; omega
          refine ⟨fun _ => by omega, fun _ => by omega, fun _ => by omega, fun _ => by omega, fun _ => by omega, fun _ => by omega, ?_⟩
          simp only [hd, cond_false, hc1, hc2, hc3]
          have hlb := lim_bad4 b c h4
          rw [← hlo, ← hhi] at hlb
          rw [hlb]
          have ht : (tailL (c :: d :: f :: r) 3 && lim b ((c :: d :: f :: r).getD 0 0)) = ((cont c && lim b c) && (cont d && cont f)) := by
            simp [tailL]
            cases cont c <;> cases cont d <;> cases cont f <;> simp
          rw [ht] at hq
          cases hcl : (cont c && lim b c) with
          | false =>
            rw [hcl] at hq
            rw [Bool.not_false, cond_true, cond_true, cond_true, cond_true]
            exact hq
          | true =>
            rw [hcl, Bool.true_and] at hq
            rw [Bool.not_true, cond_false, cont_bad]
            cases hcd : cont d with
            | false =>
              rw [hcd] at hq
              rw [Bool.not_false, cond_true, cond_true]
              exact hq
            | true =>
              rw [hcd, Bool.true_and] at hq
              rw [Bool.not_true, cond_false, cont_bad]
              cases hcf : cont f with
              | false => rw [hcf] at hq; exact hq
              | true =>
                rw [hcf, Bool.true_and] at hq
                rw [Bool.not_true, cond_false, tdrop]
                exact ⟨⟨trivial, by omega, by omega⟩, ih r (by simp; omega) h Q hq⟩
      · have hs := cls1 hc (by omega) h2 h3 h4
        unfold szI at hs
        rw [hs]
        rw [utf8_case4 b _ hb h2 h3 h4] at hq
        exact hq
end Go.Proofs.YtdnhhdplcminlaaGreatDoor.AI

/- utf8.ValidString, whole. -/
set_option maxHeartbeats 1000000
set_option maxRecDepth 100000
set_option linter.unusedVariables false
set_option linter.unusedSimpArgs false
set_option linter.unusedSectionVars false
namespace Go.Proofs.YtdnhhdplcminlaaGreatDoor.AI
open Go

theorem i1 : Int.toNat (1 : Int) = 1 := rfl
theorem i8 : Int.toNat (8 : Int) = 8 := rfl
theorem cast_lt (n k : Nat) : decide ((n : Int) > ((k : Nat) : Int)) = decide (k < n) := by rw [decide_eq_decide]; omega
theorem pc178 (s : Str) (h : 8 ≤ s.length) : PCT 178 [.str s] (.int .u64 ((wordW s).toNat : Int)) := pcIs (by kernel_rfl) (by simp) (c178 s h)

theorem valid_low {b : UInt8} {t : Str} (hb : b.toNat < 128) (ih : ∀ u : Str, u.length ≤ t.length → Ends 1 u ∧ Ends 9 u) : Ends 1 (b :: t) := by
  intro h Q hq
  refine labelIs ?_
  rw [l168_1]
  have hlt : decide (((b :: t).length : Int) > (0 : Int)) = true := by simp
  have e0 : (b :: t).getD (Int.toNat (0 : Int)) 0 = b := rfl
  have e1 : decide (((b.toNat : Nat) : Int) < (128 : Int)) = true := by simp; omega
  have hu : utf8B (b :: t) = utf8B t := by
    have e : decide (b.toNat < 128) = true := by simpa using hb
    rw [utf8B.eq_def]
    simp only [e, cond_true]
  rw [hu] at hq
  rw [hlt, cond_true, e0, e1, cond_true]
  simp only [i1, i8, tdrop]
  simp only [List.drop_succ_cons, List.drop_zero]
  refine ⟨by simp, ⟨trivial, by omega, by simp; omega⟩, ((wordW t).toNat : Int), fun h9 => ?_, ?_⟩
  · refine pc178 t ?_
    rw [Bool.and_true, decide_eq_true_eq] at h9
    omega
  · by_cases h8 : 8 < t.length
    · have e8 : decide ((t.length : Int) > (8 : Int)) = true := by simp; omega
      rw [e8, cond_true]
      simp only [ofIntu, wrapu]
      cases hz : ((((wordW t &&& BitVec.ofInt (IntKind.bits IntKind.u64) (9259542123273814144 : Int)).toNat : Nat) : Int) == (0 : Int)) with
      | false =>
        rw [cond_false]
        exact (ih t (Nat.le_refl _)).1 h Q hq
      | true =>
        rw [cond_true]
        have hw := word_low (by omega) (mask_zero' hz)
        have hu8 := utf8_skip 8 t hw
        have hl8 : (t.drop 8).length = t.length - 8 := by simp
        have hl16 : ((t.drop 8).drop 8).length = t.length - 16 := by rw [List.drop_drop, List.length_drop]
        refine ⟨⟨trivial, by omega, by omega⟩, ((wordW (t.drop 8)).toNat : Int), fun h9 => ?_, fun h9 => ?_, ((wordW ((t.drop 8).drop 8)).toNat : Int), fun h9 => ?_, ?_⟩
        · refine pc178 _ ?_
          rw [Bool.and_true, decide_eq_true_eq] at h9
          omega
        · rw [Bool.and_true, decide_eq_true_eq] at h9
          exact ⟨trivial, by omega, by omega⟩
        · refine pc178 _ ?_
          rw [Bool.and_true, decide_eq_true_eq] at h9
          omega
        · by_cases h16 : 16 < (t.drop 8).length
          · have e16 : decide (((t.drop 8).length : Int) > (16 : Int)) = true := by rw [decide_eq_true_eq]; omega
            rw [e16, cond_true]
            simp only [ofIntu]
            cases hz2 : (((((wordW (t.drop 8) ||| wordW ((t.drop 8).drop 8)) &&& BitVec.ofInt (IntKind.bits IntKind.u64) (9259542123273814144 : Int)).toNat : Nat) : Int) == (0 : Int)) with
            | false =>
              rw [cond_false]
              rw [hu8] at hq
              exact (ih _ (by omega)).1 h Q hq
            | true =>
              rw [cond_true]
              obtain ⟨hm1, hm2⟩ := mask_or (mask_zero' hz2)
              have hw1 := word_low (by omega) hm1
              have hw2 := word_low (by omega) hm2
              rw [hu8, utf8_skip 8 _ hw1, utf8_skip 8 _ hw2, List.drop_drop] at hq
              refine ⟨⟨trivial, by omega, by omega⟩, (ih _ (by simp)).2 h Q hq⟩
          · have e16 : decide (((t.drop 8).length : Int) > (16 : Int)) = false := by rw [decide_eq_false_iff_not]; omega
            rw [e16, cond_false, cond_false]
            rw [hu8] at hq
            exact (ih _ (by omega)).1 h Q hq
    · have e8 : decide ((t.length : Int) > (8 : Int)) = false := by simp; omega
      rw [e8, cond_false, cond_false]
      exact (ih t (Nat.le_refl _)).1 h Q hq

theorem valid_nil : Ends 1 [] := by
  intro h Q hq
  refine labelIs ?_
  rw [l168_1]
  exact hq

theorem valid_nine {s : Str} (h1 : Ends 1 s) (ih : ∀ u : Str, u.length < s.length → Ends 9 u) : Ends 9 s := by
  intro h Q hq
  refine labelIs ?_
  rw [l168_9]
  simp only [tdrop]
  have hl8 : (s.drop 8).length = s.length - 8 := by simp
  have hl16 : (s.drop 16).length = s.length - 16 := by simp
  have hl24 : (s.drop 24).length = s.length - 24 := by simp
  by_cases h32 : 32 < s.length
  · have e32 : decide ((s.length : Int) > (32 : Int)) = true := by rw [decide_eq_true_eq]; omega
    simp only [e32, Bool.true_and, cond_true]
    refine ⟨((wordW s).toNat : Int), fun _ => pc178 _ (by omega), fun _ => ⟨trivial, by omega, by omega⟩, ((wordW (s.drop 8)).toNat : Int), fun _ => pc178 _ (by omega), fun _ => ⟨trivial, by omega, by omega⟩, ((wordW (s.drop 16)).toNat : Int), fun _ => pc178 _ (by omega), fun _ => ⟨trivial, by omega, by omega⟩, ((wordW (s.drop 24)).toNat : Int), fun _ => pc178 _ (by omega), ?_⟩
    simp only [ofIntu, wrapu]
    cases hz : (((((wordW s ||| wordW (s.drop 8) ||| (wordW (s.drop 16) ||| wordW (s.drop 24))) &&& BitVec.ofInt (IntKind.bits IntKind.u64) (9259542123273814144 : Int)).toNat : Nat) : Int) == (0 : Int)) with
    | false =>
      rw [cond_false]
      exact h1 h Q hq
    | true =>
      rw [cond_true]
      obtain ⟨ha, hb⟩ := mask_or (mask_zero' hz)
      obtain ⟨ha1, ha2⟩ := mask_or ha
      obtain ⟨hb1, hb2⟩ := mask_or hb
      have w1 := word_low (by omega) ha1
      have w2 := word_low (by omega) ha2
      have w3 := word_low (by omega) hb1
      have w4 := word_low (by omega) hb2
      rw [utf8_skip 8 _ w1, utf8_skip 8 _ w2, List.drop_drop, utf8_skip 8 _ w3, List.drop_drop, utf8_skip 8 _ w4, List.drop_drop] at hq
      exact ⟨⟨trivial, by omega, by omega⟩, ih _ (by simp; omega) h Q hq⟩
  · have e32 : decide ((s.length : Int) > (32 : Int)) = false := by rw [decide_eq_false_iff_not]; omega
    simp only [e32, Bool.false_and, cond_false, Bool.false_eq_true, false_imp_iff, true_and]
    exact ⟨0, 0, 0, 0, h1 h Q hq⟩

theorem valid_all : ∀ n : Nat, ∀ s : Str, s.length ≤ n → Ends 1 s ∧ Ends 9 s := by
  intro n
  induction n with
  | zero =>
    intro s hs
    have : s = [] := List.eq_nil_of_length_eq_zero (by omega)
    subst this
    exact ⟨valid_nil, valid_nine valid_nil (fun u hu => by simp at hu)⟩
  | succ n ih =>
    intro s hs
    have h1 : Ends 1 s := by
      match s, hs with
      | [], _ => exact valid_nil
      | b :: t, hs =>
        have hl : t.length ≤ n := by simp at hs; exact hs
        by_cases hb : b.toNat < 128
        · exact valid_low hb (fun u hu => ih u (by omega))
        · exact valid_high hb (fun u hu => (ih u (by omega)).1)
    exact ⟨h1, valid_nine h1 (fun u hu => (ih u (by omega)).2)⟩

/-- utf8.ValidString -/
theorem valid_told : ValidTold := by
  intro s hs
  refine pureIs (M := ⟨false, 0⟩) (by kernel_rfl) (by simp) ?_
  rw [n168]
  exact (valid_all s.length s (Nat.le_refl _)).1 [] _ rfl
end Go.Proofs.YtdnhhdplcminlaaGreatDoor.AI
