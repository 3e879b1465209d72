/- Every operation but a call of a function. -/
import Derived.Test.YtdnhhdplcminlaaGreatDoorAiEff4
set_option maxHeartbeats 400000
set_option linter.unusedVariables false
set_option linter.unusedSimpArgs false
set_option linter.unusedSectionVars false
namespace Go.Proofs.YtdnhhdplcminlaaGreatDoor.AI
variable [Nu]

/-- What is looked at in a function's text. -/
def opOk (G : Cfg) (f : FuncId) (n : Nat) (o : Oper) : Bool :=
  match o.dst with
  | none => true
  | some t => t < n && (G.boxes f t == (isVar o && !G.esc f t)) && (match o.op with | .store _ _ _ => false | _ => true)

section
variable {P : Program} {G : Cfg} {E : Nat → Nat → Prop} {f : FuncId} {L : Lay} {s : St} {a : Act} {w : World}

theorem opOk_dst {o : Oper} (h : opOk G f a.tmps.size o = true) (hv : isVar o = false) : DstOk G f o a := by
  intro t ht
  simp only [opOk, ht, hv, Bool.false_and, Bool.and_eq_true, decide_eq_true_eq, beq_iff_eq] at h
  exact ⟨h.1.1, h.1.2⟩
theorem opOk_esc {o : Oper} (h : opOk G f a.tmps.size o = true) {d : Nat} (hd : o.dst = some d) (he : G.esc f d = true) : DstOk G f o a := by
  intro t ht
  rw [hd] at ht
  cases ht
  simp only [opOk, hd, he, Bool.not_true, Bool.and_false, Bool.and_eq_true, decide_eq_true_eq, beq_iff_eq] at h
  exact ⟨h.1.1, h.1.2⟩
theorem opOk_var {o : Oper} (h : opOk G f a.tmps.size o = true) (hv : isVar o = true) {d : Nat} (hd : o.dst = some d) (he : G.esc f d = false) : d < a.tmps.size ∧ G.boxes f d = true := by
  simp only [opOk, hd, he, hv, Bool.not_false, Bool.and_true, Bool.and_eq_true, decide_eq_true_eq, beq_iff_eq] at h
  exact ⟨h.1.1, h.1.2⟩

theorem prep (F : FS P G E f L s a w) : ∀ (ps : List (Nat × Operand)), (ps.map fun q => (q.1, evalO G s.env q.2)).all (fun q => solid q.2) = true →
    PRep (rc E L (obOf s.env s.heap) s.heap.length w) (ps.map fun q => (q.1, evalO G s.env q.2)) (ps.map fun q => (q.1, a.eval q.2))
  | [], _ => by simp [PRep]
  | q :: ps, h => by
    simp only [List.map_cons, List.all_cons, Bool.and_eq_true] at h
    exact ⟨rfl, (F.eval q.2).solid h.1, h.1, prep F ps h.2⟩

theorem reps (F : FS P G E f L s a w) : ∀ (xs : List Operand), allPlain (xs.map (evalO G s.env)) = true → RepL (rc E L (obOf s.env s.heap) s.heap.length w) (xs.map (evalO G s.env)) (xs.map a.eval)
  | [], _ => RepL.nil _
  | x :: xs, h => by
    simp only [allPlain, List.map_cons, List.all_cons, Bool.and_eq_true] at h
    exact RepL.cons ((F.eval x).plain h.1) (reps F xs h.2)

theorem bp_bin {op : BinOp} {t : TypeId} {x y v : AV} (h : aBin P G op t x y = some v) : (∀ b off, x ≠ .bp b off) ∧ ∀ b off, y ≠ .bp b off := by
  constructor
  · rintro b off rfl
    unfold aBin at h
    split at h <;> try cases h
    all_goals first
      | (split at h <;> try cases h)
      | skip
    all_goals simp_all
  · rintro b off rfl
    unfold aBin at h
    split at h <;> simp_all

theorem orep (F : FS P G E f L s a w) : ∀ (x : Option Operand), optPlain (x.map (evalO G s.env)) = true → ORep (rc E L (obOf s.env s.heap) s.heap.length w) (x.map (evalO G s.env)) (x.map a.eval)
  | none, _ => trivial
  | some y, h => (F.eval y).plain h

theorem bp_slice {t : TypeId} {b off : Nat} {lo hi mx : Option AV} : aSlice P t (.bp b off) lo hi mx = none := by
  unfold aSlice
  split
  · simp_all
  · split <;> simp_all
  · rfl

theorem done_pure (F : FS P G E f L s a w) {o : Oper} (hd : DstOk G f o a) {r : Sem Value} {v : AV} (he : execOp a.eval o = (do pure (.value (← r)))) (h : ∃ u, r.run P w = .ok u w ∧ VRep (rc E L (obOf s.env s.heap) s.heap.length w) v u) : Done P G E f L s o a w (.val v) := by
  obtain ⟨u, hr, hv⟩ := h
  exact done_val F hd (by rw [he]; simp [hr]) hv

theorem pick_ok {X : RC} {b : Bool} {x y : AV} {c d : Value} (hx : VRep X x c) (hy : VRep X y d) : VRep X (pickV b x y) (if b then c else d) := by
  unfold pickV
  split
  · have hx := hx.rep (by simp)
    have hy := hy.rep (by simp)
    cases hx; cases hy
    cases b <;> exact .inl (.bool _)
  · cases b
    · simpa using hy
    · simpa using hx

theorem alloc_run {elem : TypeId} {z : AV} {sz : Nat} (hz : zeroOf P elem = some z) (hs : szOf P elem = some sz) (hl : (cellsOf z).length = sz) (hsol : solid z = true) (X : RC) :
    ∃ us, RepC X (cellsOf z) us ∧ (Instr.alloc elem true (.tuple #[])).run P w = .ok (.pointer (some ⟨w.heap.size, 0, none⟩)) (w.alloc (.cells us.toArray elem)) := by
  obtain ⟨c, hrun, _, hr⟩ := run_zero (X := X) w hz
  refine ⟨c.cells.toList, cells_ok hr hsol, ?_⟩
  simp [Instr.alloc, hrun, newVar, newRow]

theorem box_run {elem : TypeId} (c : Value) : (Instr.box elem c).run P w = .ok (.pointer (some ⟨w.heap.size, 0, none⟩)) (w.alloc (.cells c.cells.toList.toArray elem)) := by
  simp [Instr.box, newVar, newRow]

theorem len_ok {ts : Array TypeId} {x : AV} {c : Value} {t : TypeId} {n : Int} {X : RC} (ht : ts[0]? = some t) (hx : Rep X x c) (hn : lenV x = some n)
    (hu : (P.underlying t = some .string ∧ ∃ b, x = .str b) ∨ ((∃ e, P.underlying t = some (.slice e)) ∧ ∀ b, x ≠ .str b)) (ty : TypeId) : (Builtin.len_ ts ty #[c]).run P w = .ok (.int .i64 n) w := by
  rcases hu with ⟨hu, b, rfl⟩ | ⟨⟨e, hu⟩, hns⟩
  · cases hx
    simp only [lenV, Option.some.injEq] at hn
    subst hn
    have hsz : (⟨b.toArray⟩ : ByteArray).size = b.length := by simp [ByteArray.size]
    simp only [Builtin.len_, ht, List.getElem?_toArray, List.getElem?_cons_zero, Sem.run_bind, run_und hu, Result.andThen_ok, hsz, goInt, Sem.run_pure]
  · unfold lenV at hn
    split at hn <;> try cases hn
    · cases hx; simp [Builtin.len_, ht, run_und hu, goInt]
    · cases hx; simp [Builtin.len_, ht, run_und hu, goInt]
    · rcases hx.sl_inv with ⟨_, _, _, rfl, _⟩ | ⟨rfl, rfl, rfl⟩ <;> simp [Builtin.len_, ht, run_und hu, goInt]
    · rcases hx.tk_inv with ⟨_, _, _, _, _, _, rfl, _⟩ | ⟨rfl, rfl, rfl⟩ <;> simp [Builtin.len_, ht, run_und hu, goInt]
    · rcases hx.ms_inv with ⟨_, _, rfl, _⟩ | ⟨rfl, rfl, rfl⟩ <;> simp [Builtin.len_, ht, run_und hu, goInt]
    · exact absurd rfl (hns _)

theorem call_run {ρ : Operand → Value} {o : Oper} {c : Call} {b : Builtin} {r : Sem Value} (ho : o.op = .call c) (hc : c.callee = .builtin b)
    (hb : ∀ consts, builtin b c.argTypes o.type consts (c.args.map ρ) = (do pure (.value (← r)))) : execOp ρ o = (do pure (.value (← r))) := by
  simp only [execOp, ho, resolve, hc, pure_bind, invoke]
  exact hb _

theorem aop_sound (O : OraOk G) (F : FS P G E f L s a w) {o : Oper} (hk : opOk G f a.tmps.size o = true) {x : Eff} (h : aop P G f s.env s.heap o = some x) : Done P G E f L s o a w x := by
  unfold aop at h
  simp only at h
  split at h
  · -- move
    rename_i y hop
    cases h
    exact done_val F (opOk_dst hk (by simp [isVar, hop])) (by simp [execOp, hop]) (F.eval y).denil
  · rename_i y hop
    cases h
    exact done_val F (opOk_dst hk (by simp [isVar, hop])) (by simp [execOp, hop]) (F.eval y).denil
  · rename_i c y z hop
    split at h <;> try cases h
    rename_i b hc
    have hb := F.eval c
    rw [hc] at hb
    have hb := hb.rep (by simp)
    generalize hcv : a.eval c = cv at hb
    cases hb
    exact done_val F (opOk_dst hk (by simp [isVar, hop])) (by simp [execOp, hop, hcv, asBool]) (pick_ok (F.eval y) (F.eval z))
  · -- alloc
    rename_i elem hop
    split at h <;> try cases h
    rename_i z sz d hz hs hd
    split at h <;> try cases h
    rename_i hc
    simp only [Bool.or_eq_true, bne_iff_ne, ne_eq, Bool.not_eq_true', not_or, Decidable.not_not, Bool.not_eq_false, decide_eq_true_eq] at hc
    obtain ⟨us, hr, hrun⟩ := alloc_run (P := P) (w := w) hz hs hc.1 hc.2 (rc E L (obOf s.env s.heap) s.heap.length w)
    split at h
    · rename_i he
      cases h
      exact done_effB F (opOk_esc hk hd he) (by simp [execOp, hop]) (new_arr F.hs hr.denil hrun)
    · rename_i he
      split at h <;> try cases h
      rename_i hu
      obtain ⟨h1, h2⟩ := opOk_var hk (by simp [isVar, hop]) hd (by simpa using he)
      exact done_newbox F hd h1 h2 hu (e := elem) (by simp [execOp, hop, hrun]) hr.denil
  · -- box
    rename_i elem y hop
    split at h <;> try cases h
    rename_i sz d hs hd
    split at h <;> try cases h
    rename_i hc
    simp only [Bool.or_eq_true, bne_iff_ne, ne_eq, Bool.not_eq_true', not_or, Decidable.not_not, Bool.not_eq_false, decide_eq_true_eq] at hc
    have hr := cells_ok ((F.eval y).solid hc.2) hc.2
    have hrun := box_run (P := P) (w := w) (elem := elem) (a.eval y)
    split at h
    · rename_i he
      cases h
      exact done_effB F (opOk_esc hk hd he) (by simp [execOp, hop]) (new_arr F.hs hr.denil hrun)
    · rename_i he
      split at h <;> try cases h
      rename_i hu
      obtain ⟨h1, h2⟩ := opOk_var hk (by simp [isVar, hop]) hd (by simpa using he)
      exact done_newbox F hd h1 h2 hu (e := elem) (by simp [execOp, hop, hrun]) hr.denil
  · -- build
    rename_i t parts hop
    split at h <;> try cases h
    rename_i hall
    obtain ⟨v, hv, rfl⟩ := Option.map_eq_some_iff.1 h
    obtain ⟨u, hrun, hr⟩ := build_ok (X := rc E L (obOf s.env s.heap) s.heap.length w) w hv (prep F parts.toList hall)
    exact done_pure F (opOk_dst hk (by simp [isVar, hop])) (r := Instr.build t (parts.map fun q => (q.1, a.eval q.2))) (by simp [execOp, hop]) ⟨u, by rw [← hrun]; congr 2; simp [← Array.toList_map], .inl hr⟩
  · -- buildSlice
    rename_i t n parts hop
    split at h <;> try cases h
    rename_i hall
    obtain ⟨v, hv, rfl⟩ := Option.map_eq_some_iff.1 h
    obtain ⟨u, w', hrun, hw, hr⟩ := buildSlice_ok F.hs hv (prep F parts.toList hall)
    refine done_world F (opOk_dst hk (by simp [isVar, hop])) (c := u) (w' := w') ?_ hw (.inl hr)
    have : (Instr.buildSlice t n (parts.map fun q => (q.1, a.eval q.2))).run P w = .ok u w' := by rw [← hrun]; congr 2; simp [← Array.toList_map]
    simp [execOp, hop, this]
  · -- load
    rename_i t y hop
    split at h <;> try cases h
    rename_i sz hs
    split at h <;> try cases h
    rename_i cs hr
    obtain ⟨v, hv, h⟩ := Option.bind_eq_some_iff.1 h
    split at h <;> try cases h
    obtain ⟨u, hrun, hrep⟩ := load_ok (P := P) F.hs hs hr hv (F.eval y)
    exact done_pure F (opOk_dst hk (by simp [isVar, hop])) (by simp [execOp, hop]) ⟨u, hrun, .inl hrep⟩
  · -- store
    rename_i t y z hop
    have hdn : o.dst = none := by
      cases hd : o.dst with
      | none => rfl
      | some d => simp [opOk, hd, hop] at hk
    exact store_ok F (fun t ht => by rw [hdn] at ht; cases ht) hdn hop h
  · -- nilCheck
    rename_i y hop
    have hy := F.eval y
    split at h <;> try cases h
    all_goals
      rename_i he
      rw [he] at hy
      refine done_val F (opOk_dst hk (by simp [isVar, hop])) (c := a.eval y) ?_ hy
    · have hy := hy.rep (by simp)
      generalize hcv : a.eval y = cv at hy
      cases hy
      simp [execOp, hop, hcv]
    · obtain ⟨_, hy⟩ := hy.bp
      simp [execOp, hop, hy]
    · have hy := hy.rep (by simp)
      generalize hcv : a.eval y = cv at hy
      cases hy
      simp [execOp, hop, hcv]
  · -- binOp
    rename_i op t y z k hop
    obtain ⟨v, hv, rfl⟩ := Option.map_eq_some_iff.1 h
    obtain ⟨hb1, hb2⟩ := bp_bin hv
    obtain ⟨u, hrun, hrep⟩ := bin_ok (P := P) w O y z hv ((F.eval y).rep hb1) ((F.eval z).rep hb2)
    exact done_pure F (opOk_dst hk (by simp [isVar, hop])) (by simp [execOp, hop]) ⟨u, hrun, .inl hrep⟩
  · -- unOp
    rename_i op t y hop
    obtain ⟨v, hv, rfl⟩ := Option.map_eq_some_iff.1 h
    obtain ⟨u, hrun, hrep⟩ := un_ok (P := P) w hv ((F.eval y).rep (fun b off he => by rw [he] at hv; simp [aUn] at hv))
    exact done_pure F (opOk_dst hk (by simp [isVar, hop])) (by simp [execOp, hop]) ⟨u, hrun, .inl hrep⟩
  · -- convert
    rename_i t u y hop
    obtain ⟨v, hv, rfl⟩ := Option.map_eq_some_iff.1 h
    obtain ⟨u, hrun, hrep⟩ := conv_ok (P := P) w hv ((F.eval y).rep (fun b off he => by rw [he] at hv; simp [aConv] at hv))
    exact done_pure F (opOk_dst hk (by simp [isVar, hop])) (by simp [execOp, hop]) ⟨u, hrun, .inl hrep⟩
  · -- makeFunc
    rename_i fn first caps hop
    split at h <;> try cases h
    rename_i hc
    simp only [Bool.and_eq_true, beq_iff_eq, decide_eq_true_eq] at hc
    obtain ⟨hc1, hc2⟩ := hc
    have hfirst : first = #[] := Array.eq_empty_of_size_eq_zero hc1
    have hr := reps F caps.toList hc2
    refine done_val F (opOk_dst hk (by simp [isVar, hop])) (c := .func fn #[] (caps.toList.map a.eval).toArray) ?_ (.inl (.fn fn _ _ hr.1 hr.2))
    simp [execOp, hop, Instr.makeFunc, hfirst]
    rw [← Array.toList_map]
  · -- makeMap
    rename_i t hop
    cases h
    exact done_effB F (opOk_dst hk (by simp [isVar, hop])) (by simp [execOp, hop]) (makeMap_ok F.hs t)
  · -- makeSlice
    rename_i t y z hop
    have hb : (∀ b off, evalO G s.env y ≠ .bp b off) ∧ ∀ b off, evalO G s.env z ≠ .bp b off := by
      constructor <;> (intro b off he; rw [he] at h; unfold aMakeSlice at h; split at h <;> simp_all)
    exact done_effB F (opOk_dst hk (by simp [isVar, hop])) (by simp [execOp, hop]) (makeSlice_ok F.hs h ((F.eval y).rep hb.1) ((F.eval z).rep hb.2))
  · -- slice
    rename_i t y lo hi mx hop
    split at h <;> try cases h
    rename_i hc
    simp only [Bool.and_eq_true] at hc
    obtain ⟨v, hv, rfl⟩ := Option.map_eq_some_iff.1 h
    obtain ⟨u, hrun, hrep⟩ := aSlice_ok (P := P) w hv ((F.eval y).rep (fun b off he => by rw [he, bp_slice] at hv; cases hv)) (orep F mx hc.2) (orep F hi hc.1.2) (orep F lo hc.1.1)
    exact done_pure F (opOk_dst hk (by simp [isVar, hop])) (by simp [execOp, hop]) ⟨u, hrun, .inl hrep⟩
  · -- fieldAddr
    rename_i t y i hop
    obtain ⟨v, hv, rfl⟩ := Option.map_eq_some_iff.1 h
    exact done_pure F (opOk_dst hk (by simp [isVar, hop])) (by simp [execOp, hop]) (fieldPtr_ok (P := P) w hv (F.eval y))
  · -- indexAddr
    rename_i t y i hop
    obtain ⟨v, hv, rfl⟩ := Option.map_eq_some_iff.1 h
    have hb : ∀ b off, evalO G s.env i ≠ .bp b off := by
      intro b off he; rw [he] at hv; simp [indexPtr] at hv
    exact done_pure F (opOk_dst hk (by simp [isVar, hop])) (by simp [execOp, hop]) (indexPtr_ok (P := P) w hv (F.eval y) ((F.eval i).rep hb))
  · -- index
    rename_i t y i hop
    obtain ⟨v, hv, rfl⟩ := Option.map_eq_some_iff.1 h
    have hb : ∀ b off, evalO G s.env i ≠ .bp b off := by
      intro b off he; rw [he] at hv; simp [indexVal] at hv
    have hb2 : ∀ b off, evalO G s.env y ≠ .bp b off := by
      intro b off he; rw [he] at hv; unfold indexVal at hv; split at hv
      · split at hv <;> simp_all
      · cases hv
    obtain ⟨u, hrun, hrep⟩ := indexVal_ok (P := P) w hv ((F.eval y).rep hb2) ((F.eval i).rep hb)
    exact done_pure F (opOk_dst hk (by simp [isVar, hop])) (by simp [execOp, hop]) ⟨u, hrun, .inl hrep⟩
  · -- field
    rename_i t y i hop
    split at h <;> try cases h
    rename_i fs cs hu he
    split at h <;> try cases h
    rename_i fd hfd
    obtain ⟨v, hv, rfl⟩ := Option.map_eq_some_iff.1 h
    have hy := F.eval y
    rw [he] at hy
    obtain ⟨u, hrun, hrep⟩ := field_ok (P := P) w hu hfd hv (hy.rep (by simp))
    exact done_pure F (opOk_dst hk (by simp [isVar, hop])) (by simp [execOp, hop]) ⟨u, hrun, .inl hrep⟩
  · -- lookup
    rename_i t m k ok hop
    obtain ⟨v, hv, rfl⟩ := Option.map_eq_some_iff.1 h
    have hb : ∀ b off, evalO G s.env k ≠ .bp b off := by
      intro b off he; rw [he] at hv; unfold aLookup at hv; split at hv <;> simp_all [keyFits]
    have hb2 : ∀ b off, evalO G s.env m ≠ .bp b off := by
      intro b off he; rw [he] at hv; unfold aLookup mapE at hv; split at hv <;> simp_all
    obtain ⟨u, hrun, hrep⟩ := lookup_ok (P := P) F.hs hv ((F.eval m).rep hb2) ((F.eval k).rep hb)
    exact done_pure F (opOk_dst hk (by simp [isVar, hop])) (by simp [execOp, hop]) ⟨u, hrun, .inl hrep⟩
  · -- mapUpdate
    rename_i t m k v hop
    exact mapUpdate_ok F (opOk_dst hk (by simp [isVar, hop])) hop h
  · -- range
    rename_i t y hop
    split at h <;> try cases h
    rename_i b hu he
    have hy := F.eval y
    rw [he] at hy
    have hy := hy.rep (by simp)
    generalize hcv : a.eval y = cv at hy
    cases hy
    exact done_effB F (opOk_dst hk (by simp [isVar, hop])) (by simp [execOp, hop, hcv]) (range_ok F.hs hu b)
  · -- next
    rename_i y hop
    have hb : ∀ b off, evalO G s.env y ≠ .bp b off := by
      intro b off he; rw [he] at h; simp [aNext] at h
    exact done_effB F (opOk_dst hk (by simp [isVar, hop])) (by simp [execOp, hop]) (next_ok F.hs o.type h ((F.eval y).rep hb))
  · -- extract
    rename_i y i hop
    split at h <;> try cases h
    rename_i vs he
    obtain ⟨v, hv, rfl⟩ := Option.map_eq_some_iff.1 h
    have hy := F.eval y
    rw [he] at hy
    obtain ⟨u, hrun, hrep⟩ := extract_ok (P := P) w hv (hy.rep (by simp))
    exact done_pure F (opOk_dst hk (by simp [isVar, hop])) (by simp [execOp, hop]) ⟨u, hrun, .inl hrep⟩
  · -- functions of the language
    rename_i b args ts hop
    split at h
    · rename_i x hargs
      obtain ⟨ax, hax, rfl⟩ : ∃ ax, args = #[ax] ∧ evalO G s.env ax = x := by
        obtain ⟨l⟩ := args
        simp only at hargs
        cases l with
        | nil => simp at hargs
        | cons y l => cases l with
          | nil => exact ⟨y, rfl, by simpa using hargs⟩
          | cons _ _ => simp at hargs
      subst hax
      split at h
      · rename_i n ht hl
        split at h <;> try cases h
        rename_i b he
        obtain ⟨t, ht1, ht2⟩ := Option.bind_eq_some_iff.1 ht
        have hy := F.eval ax
        rw [he] at hy hl
        refine done_val F (opOk_dst hk (by simp [isVar, hop])) (c := .int .i64 n) ?_ (.inl (.int _ _))
        rw [call_run (r := Builtin.len_ ts o.type #[a.eval ax]) hop rfl (fun consts => by simp [builtin])]
        simp [len_ok ht1 (hy.rep (by simp)) hl (.inl ⟨ht2, b, rfl⟩)]
      · rename_i e n ht hl
        split at h <;> try cases h
        rename_i hns
        obtain ⟨t, ht1, ht2⟩ := Option.bind_eq_some_iff.1 ht
        refine done_val F (opOk_dst hk (by simp [isVar, hop])) (c := .int .i64 n) ?_ (.inl (.int _ _))
        rw [call_run (r := Builtin.len_ ts o.type #[a.eval ax]) hop rfl (fun consts => by simp [builtin])]
        have hy := (F.eval ax).rep (fun b off he => by rw [he] at hl; simp [lenV] at hl)
        simp [len_ok ht1 hy hl (.inr ⟨⟨e, ht2⟩, hns⟩)]
      · cases h
    · rename_i sv x hargs
      obtain ⟨as', ax, hax, rfl, rfl⟩ : ∃ as' ax, args = #[as', ax] ∧ evalO G s.env as' = sv ∧ evalO G s.env ax = x := by
        obtain ⟨l⟩ := args
        simp only at hargs
        cases l with
        | nil => simp at hargs
        | cons y l => cases l with
          | nil => simp at hargs
          | cons z l => cases l with
            | nil => simp at hargs; exact ⟨y, z, rfl, hargs.1, hargs.2⟩
            | cons _ _ => simp at hargs
      subst hax
      have hb : (∀ b off, evalO G s.env as' ≠ .bp b off) ∧ ∀ b off, evalO G s.env ax ≠ .bp b off := by
        constructor
        · intro b off he; rw [he] at h; unfold aAppend at h
          repeat' (split at h <;> try cases h)
          all_goals simp_all
        · intro b off he; rw [he] at h; simp only [aAppend, srcCells] at h
          repeat' (split at h <;> try cases h)
      exact done_effB F (opOk_dst hk (by simp [isVar, hop])) (call_run (r := Builtin.append_ ts o.type #[a.eval as', a.eval ax]) hop rfl (fun consts => by simp [builtin]))
        (append_ok F.hs o.type h ((F.eval as').rep hb.1) ((F.eval ax).rep hb.2))
    · rename_i k x k' y hargs
      obtain ⟨ax, ay, hax, h1, h2⟩ : ∃ ax ay, args = #[ax, ay] ∧ evalO G s.env ax = .int k x ∧ evalO G s.env ay = .int k' y := by
        obtain ⟨l⟩ := args
        simp only at hargs
        cases l with
        | nil => simp at hargs
        | cons y l => cases l with
          | nil => simp at hargs
          | cons z l => cases l with
            | nil => simp at hargs; exact ⟨y, z, rfl, hargs.1, hargs.2⟩
            | cons _ _ => simp at hargs
      subst hax
      cases h
      have e1 := F.eval ax
      have e2 := F.eval ay
      rw [h1] at e1
      rw [h2] at e2
      have e1 := e1.rep (by simp)
      have e2 := e2.rep (by simp)
      generalize hc1 : a.eval ax = c1 at e1
      generalize hc2 : a.eval ay = c2 at e2
      cases e1
      cases e2
      refine done_val F (opOk_dst hk (by simp [isVar, hop])) (c := .int k (if y < x then y else x)) ?_ (.inl (.int _ _))
      rw [call_run (r := Builtin.min_ ts o.type #[a.eval ax, a.eval ay]) hop rfl (fun consts => by simp [builtin])]
      simp [Builtin.min_, Builtin.min2, hc1, hc2]
    · rename_i k x k' y hargs
      obtain ⟨ax, ay, hax, h1, h2⟩ : ∃ ax ay, args = #[ax, ay] ∧ evalO G s.env ax = .int k x ∧ evalO G s.env ay = .int k' y := by
        obtain ⟨l⟩ := args
        simp only at hargs
        cases l with
        | nil => simp at hargs
        | cons y l => cases l with
          | nil => simp at hargs
          | cons z l => cases l with
            | nil => simp at hargs; exact ⟨y, z, rfl, hargs.1, hargs.2⟩
            | cons _ _ => simp at hargs
      subst hax
      cases h
      have e1 := F.eval ax
      have e2 := F.eval ay
      rw [h1] at e1
      rw [h2] at e2
      have e1 := e1.rep (by simp)
      have e2 := e2.rep (by simp)
      generalize hc1 : a.eval ax = c1 at e1
      generalize hc2 : a.eval ay = c2 at e2
      cases e1
      cases e2
      refine done_val F (opOk_dst hk (by simp [isVar, hop])) (c := .int k (if y > x then y else x)) ?_ (.inl (.int _ _))
      rw [call_run (r := Builtin.max_ ts o.type #[a.eval ax, a.eval ay]) hop rfl (fun consts => by simp [builtin])]
      simp [Builtin.max_, Builtin.max2, hc1, hc2]
    · cases h
  · cases h
end
end Go.Proofs.YtdnhhdplcminlaaGreatDoor.AI
