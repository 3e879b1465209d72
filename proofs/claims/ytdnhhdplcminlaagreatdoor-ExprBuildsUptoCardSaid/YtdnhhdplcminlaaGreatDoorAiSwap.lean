/- Operations that no edge orders can be carried out in either order. -/
import Derived.Test.YtdnhhdplcminlaaGreatDoorAiOp
set_option maxHeartbeats 400000
set_option linter.unusedVariables false
set_option linter.unusedSimpArgs false
set_option linter.unusedSectionVars false
namespace Go.Proofs.YtdnhhdplcminlaaGreatDoor.AI
variable [Nu]

inductive Cls where
  | indep | var | read | write
  deriving DecidableEq

section
variable (P : Program) (G : Cfg)

def clsOf (f : FuncId) (o : Oper) : Cls :=
  match o.op with
  | .move _ | .assign _ | .pick _ _ _ | .build _ _ | .buildSlice _ _ _ | .nilCheck _ | .binOp _ _ _ _ _ | .unOp _ _ _ | .convert _ _ _ | .makeFunc _ _ _ | .slice _ _ _ _ _
  | .fieldAddr _ _ _ | .indexAddr _ _ _ | .index _ _ _ | .field _ _ _ | .extract _ _ => .indep
  | .alloc _ | .box _ _ => match o.dst with | some d => if G.esc f d then .write else .var | none => .write
  | .load _ _ | .lookup _ _ _ _ => .read
  | .call c => match c.callee with
    | .value (.func g) => if apartF G g then .indep else .write
    | .builtin .len | .builtin .min | .builtin .max => .indep
    | _ => .write
  | _ => .write

/-- A variable in the heap. -/
def isFresh (f : FuncId) (o : Oper) : Bool := isVar o && match o.dst with | some d => G.esc f d | none => false

def pairOk (f : FuncId) (ops : Array Oper) (x o : Oper) : Bool :=
  x.apart ops o && (match clsOf G f o with
    | .indep | .var => true
    | .read => clsOf G f x == .indep || clsOf G f x == .read
    | .write => clsOf G f x == .indep || (clsOf G f x == .read && isFresh G f o))
end

section
variable {P : Program} {G : Cfg} {K : Caller} {f : FuncId} {ops : Array Oper}

def BX (G : Cfg) (f : FuncId) (e : Env) : Prop := ∀ t cs, e t = .box cs → G.boxes f t = true

/-- Two frames look the same to an operation. -/
structure Agree (G : Cfg) (ops : Array Oper) (o : Oper) (e e' : Env) : Prop where
  opd : ∀ y ∈ o.op.operands, evalO G e' y = evalO G e y
  guard : guardOf ops e' o = guardOf ops e o
  dst : ∀ d, o.dst = some d → e d = .undef → e' d = .undef

theorem Agree.map {o : Oper} {e e' : Env} (h : Agree G ops o e e') {xs : List Operand} (hx : ∀ y ∈ xs, y ∈ o.op.operands) : xs.map (evalO G e') = xs.map (evalO G e) :=
  List.map_congr_left fun y hy => h.opd y (hx y hy)

theorem readP_agree {e e' : Env} (hb : ∀ t cs, e t = .box cs → e' t = .box cs) {h : Heap} {p : AV} {n : Nat} {cs : List AV} (hr : readP e h p n = some cs) : readP e' h p n = some cs := by
  unfold readP at hr ⊢
  split at hr <;> try exact hr
  rename_i t off
  split at hr <;> try cases hr
  rename_i ds he
  rw [hb t ds he]
  exact hr

theorem aStore_agree {e e' : Env} (hb : ∀ t cs, e t = .box cs → e' t = .box cs) {h : Heap} {t : TypeId} {p v : AV} {x : Eff} (hr : aStore P e h t p v = some x) : aStore P e' h t p v = some x := by
  unfold aStore at hr ⊢
  split at hr <;> try cases hr
  split at hr <;> try cases hr
  rename_i hc
  rw [if_neg hc]
  split at hr
  · rename_i b off
    split at hr <;> try cases hr
    rename_i cs he
    rw [hb b cs he]
    exact hr
  · exact hr
  · cases hr

theorem mem_args {o : Oper} {c : Call} (ho : o.op = .call c) {y : Operand} (hy : y ∈ c.args.toList) : y ∈ o.op.operands := by
  rw [ho]
  simp only [Op.operands, Call.operands]
  have : y ∈ c.args := by simpa using hy
  split <;> simp_all

theorem mem_parts {o : Oper} {ps : Array (Nat × Operand)} (ho : o.op.operands = (ps.toList.map (·.2)).toArray) {e e' : Env} (ag : Agree G ops o e e') :
    (ps.toList.map fun q => (q.1, evalO G e' q.2)) = ps.toList.map fun q => (q.1, evalO G e q.2) :=
  List.map_congr_left fun q hq => by rw [ag.opd q.2 (by rw [ho]; simp only [List.mem_toArray, List.mem_map]; exact ⟨q, hq, rfl⟩)]

/-- An operation does the same where all it looks at is the same. -/
theorem aop_agree {o : Oper} {e e' : Env} {h : Heap} {x : Eff} (ag : Agree G ops o e e') (hb : ∀ t cs, e t = .box cs → e' t = .box cs) (hx : aop P G f e h o = some x) : aop P G f e' h o = some x := by
  unfold aop at hx ⊢
  simp only at hx ⊢
  split at hx <;> try (cases hx; done)
  case h_4 elem hop =>
    split at hx <;> try cases hx
    rename_i z sz d hz hs hd
    split at hx <;> try cases hx
    rename_i hc
    rw [if_neg hc]
    split at hx
    · rename_i he; rw [if_pos he]; exact hx
    · rename_i he
      rw [if_neg he]
      split at hx <;> try cases hx
      rename_i hu
      rw [ag.dst d hd hu]
  case h_5 elem y hop =>
    have hy := ag.opd y (by rw [hop]; simp [Op.operands])
    split at hx <;> try cases hx
    rename_i sz d hs hd
    rw [hy]
    split at hx <;> try cases hx
    rename_i hc
    rw [if_neg hc]
    split at hx
    · rename_i he; rw [if_pos he]; exact hx
    · rename_i he
      rw [if_neg he]
      split at hx <;> try cases hx
      rename_i hu
      rw [ag.dst d hd hu]
  case h_6 t ps hop =>
    rw [mem_parts (by rw [hop]; rfl) ag]
    exact hx
  case h_7 t n ps hop =>
    rw [mem_parts (by rw [hop]; rfl) ag]
    exact hx
  case h_8 t y hop =>
    rw [ag.opd y (by rw [hop]; simp [Op.operands])]
    split at hx <;> try cases hx
    split at hx <;> try cases hx
    rename_i cs hr
    rw [readP_agree hb hr]
    exact hx
  case h_9 t y z hop =>
    rw [ag.opd y (by rw [hop]; simp [Op.operands]), ag.opd z (by rw [hop]; simp [Op.operands])]
    exact aStore_agree hb hx
  case h_14 fn first caps hop =>
    have hm : caps.toList.map (evalO G e') = caps.toList.map (evalO G e) := ag.map fun y hy => by rw [hop]; simp only [Op.operands, Array.mem_append]; right; simpa using hy
    rw [hm]
    exact hx
  case h_17 t y lo hi mx hop =>
    have h1 : ∀ z : Option Operand, (∀ y, z = some y → y ∈ o.op.operands) → z.map (evalO G e') = z.map (evalO G e) := by
      intro z hz
      cases z with
      | none => rfl
      | some y => simp [ag.opd y (hz y rfl)]
    rw [ag.opd y (by rw [hop]; simp [Op.operands]), h1 lo (fun y hy => by rw [hop, hy]; simp [Op.operands]), h1 hi (fun y hy => by rw [hop, hy]; simp [Op.operands]), h1 mx (fun y hy => by rw [hop, hy]; simp [Op.operands])]
    exact hx
  case h_27 b args ts hop =>
    have hm : args.toList.map (evalO G e') = args.toList.map (evalO G e) := ag.map fun y hy => mem_args hop hy
    rw [hm]
    exact hx
  all_goals
    rename_i hop
    have hopd := ag.opd
    rw [hop] at hopd
    simp [Op.operands] at hopd
    try simp only [hopd]
    exact hx

/-- An operation that looks at no object. -/
theorem aop_indep {o : Oper} {e e' : Env} {h h' : Heap} {x : Eff} (hc0 : clsOf G f o = .indep ∨ clsOf G f o = .var) (ag : Agree G ops o e e') (hx : aop P G f e h o = some x) : aop P G f e' h' o = some x := by
  unfold aop at hx ⊢
  simp only at hx ⊢
  split at hx <;> try (cases hx; done)
  case h_4 elem hop =>
    split at hx <;> try cases hx
    rename_i z sz d hz hs hd
    split at hx <;> try cases hx
    rename_i hc
    rw [if_neg hc]
    split at hx
    · rename_i he; simp [clsOf, hop, hd, he] at hc0
    · rename_i he
      rw [if_neg he]
      split at hx <;> try cases hx
      rename_i hu
      rw [ag.dst d hd hu]
  case h_5 elem y hop =>
    have hy := ag.opd y (by rw [hop]; simp [Op.operands])
    split at hx <;> try cases hx
    rename_i sz d hs hd
    rw [hy]
    split at hx <;> try cases hx
    rename_i hc
    rw [if_neg hc]
    split at hx
    · rename_i he; simp [clsOf, hop, hd, he] at hc0
    · rename_i he
      rw [if_neg he]
      split at hx <;> try cases hx
      rename_i hu
      rw [ag.dst d hd hu]
  case h_6 t ps hop =>
    rw [mem_parts (by rw [hop]; rfl) ag]
    exact hx
  case h_7 t n ps hop =>
    rw [mem_parts (by rw [hop]; rfl) ag]
    exact hx
  case h_8 t y hop => simp [clsOf, hop] at hc0
  case h_9 t y z hop => simp [clsOf, hop] at hc0
  case h_14 fn first caps hop =>
    have hm : caps.toList.map (evalO G e') = caps.toList.map (evalO G e) := ag.map fun y hy => by rw [hop]; simp only [Op.operands, Array.mem_append]; right; simpa using hy
    rw [hm]
    exact hx
  case h_17 t y lo hi mx hop =>
    have h1 : ∀ z : Option Operand, (∀ y, z = some y → y ∈ o.op.operands) → z.map (evalO G e') = z.map (evalO G e) := by
      intro z hz
      cases z with
      | none => rfl
      | some y => simp [ag.opd y (hz y rfl)]
    rw [ag.opd y (by rw [hop]; simp [Op.operands]), h1 lo (fun y hy => by rw [hop, hy]; simp [Op.operands]), h1 hi (fun y hy => by rw [hop, hy]; simp [Op.operands]), h1 mx (fun y hy => by rw [hop, hy]; simp [Op.operands])]
    exact hx
  case h_27 b args ts hop =>
    have hm : args.toList.map (evalO G e') = args.toList.map (evalO G e) := ag.map fun y hy => mem_args hop hy
    rw [hm]
    split at hx <;> try exact hx
    simp [clsOf, hop] at hc0
  all_goals
    rename_i hop
    have hopd := ag.opd
    rw [hop] at hopd
    simp [Op.operands] at hopd
    try simp only [hopd]
    first
      | exact hx
      | (simp [clsOf, hop] at hc0)

theorem map_val {α : Type} {x : Option α} {g : α → AV} {e : Eff} (h : x.map (fun a => Eff.val (g a)) = some e) : ∃ v, e = .val v := by
  obtain ⟨a, _, rfl⟩ := Option.map_eq_some_iff.1 h
  exact ⟨_, rfl⟩

/-- What reads alone hands back a value. -/
theorem aop_val {o : Oper} {e : Env} {h : Heap} {x : Eff} (hc0 : clsOf G f o ≠ .write) (hx : aop P G f e h o = some x) : ∃ v, x = .val v := by
  unfold aop at hx
  simp only at hx
  split at hx <;> try (cases hx; done)
  all_goals try (rename_i hop; simp [clsOf, hop] at hc0; done)
  all_goals try (cases hx; exact ⟨_, rfl⟩; done)
  all_goals try (obtain ⟨_, _, rfl⟩ := Option.map_eq_some_iff.1 hx; exact ⟨_, rfl⟩; done)
  all_goals try (split at hx <;> first | (cases hx; done) | (cases hx; exact ⟨_, rfl⟩) | (obtain ⟨_, _, rfl⟩ := Option.map_eq_some_iff.1 hx; exact ⟨_, rfl⟩); done)
  case h_4 hop =>
    split at hx <;> try cases hx
    rename_i hd
    split at hx <;> try cases hx
    split at hx
    · rename_i he; simp [clsOf, hop, hd, he] at hc0
    · split at hx <;> try cases hx
      exact ⟨_, rfl⟩
  case h_5 hop =>
    split at hx <;> try cases hx
    rename_i hd
    split at hx <;> try cases hx
    split at hx
    · rename_i he; simp [clsOf, hop, hd, he] at hc0
    · split at hx <;> try cases hx
      exact ⟨_, rfl⟩
  case h_8 hop =>
    split at hx <;> try cases hx
    split at hx <;> try cases hx
    obtain ⟨v, hv, h⟩ := Option.bind_eq_some_iff.1 hx
    split at h <;> try cases h
    exact ⟨_, rfl⟩
  case h_21 hop =>
    split at hx <;> try cases hx
    split at hx <;> try cases hx
    obtain ⟨_, _, rfl⟩ := Option.map_eq_some_iff.1 hx; exact ⟨_, rfl⟩
  case h_27 hop =>
    split at hx
    · split at hx <;> try cases hx
      · split at hx <;> try cases hx
        exact ⟨_, rfl⟩
      · split at hx <;> try cases hx
        exact ⟨_, rfl⟩
    · simp [clsOf, hop] at hc0
    · cases hx; exact ⟨_, rfl⟩
    · cases hx; exact ⟨_, rfl⟩
    · cases hx

theorem callOf_agree {o : Oper} {e e' : Env} (ag : Agree G ops o e e') : callOf G e' o = callOf G e o := by
  unfold callOf
  cases hop : o.op with
  | call c =>
    simp only
    cases hc : c.callee with
    | value y =>
      have hm : c.args.toList.map (evalO G e') = c.args.toList.map (evalO G e) := ag.map fun y hy => mem_args hop hy
      have hy := ag.opd y (by rw [hop]; simp [Op.operands, Call.operands, hc])
      obtain ⟨callee, args, ats⟩ := c
      simp only at hc
      subst hc
      simp only [hy, hm]
    | _ => obtain ⟨callee, args, ats⟩ := c; simp only at hc; subst hc; rfl
  | _ => rfl

theorem cls_call {o : Oper} (hi : isCall o = true) (hc0 : clsOf G f o ≠ .write) {e : Env} {g : FuncId} {args : List AV} (h : callOf G e o = some (g, args)) : apartF G g = true := by
  unfold isCall at hi
  split at hi <;> try cases hi
  rename_i y args' ats hop
  simp only [callOf, hop] at h
  simp only [clsOf, hop] at hc0
  split at h <;> try cases h
  rename_i g' caps he
  split at h <;> try cases h
  cases y with
  | func g'' =>
    simp only [evalO, AV.fn.injEq, Fn.func.injEq] at he
    obtain ⟨rfl, rfl⟩ := he
    simp only at hc0
    cases hg : apartF G g'' with
    | true => rfl
    | false => simp [hg] at hc0
  | _ => simp at hc0

theorem effO_agree {o : Oper} {e e' : Env} {h : Heap} {x : Eff} (ag : Agree G ops o e e') (hb : ∀ t cs, e t = .box cs → e' t = .box cs) (hx : effO P G K f ops o ⟨e, h⟩ = some x) : effO P G K f ops o ⟨e', h⟩ = some x := by
  unfold effO at hx ⊢
  simp only [ag.guard, callOf_agree ag] at hx ⊢
  split at hx
  · cases hx
  · exact hx
  · split at hx
    · rename_i hi; rw [if_pos hi]; exact hx
    · rename_i hi; rw [if_neg hi]; exact aop_agree ag hb hx

theorem effO_indep {o : Oper} {e e' : Env} {h h' : Heap} {x : Eff} (hc0 : clsOf G f o = .indep ∨ clsOf G f o = .var) (ag : Agree G ops o e e') (hx : effO P G K f ops o ⟨e, h⟩ = some x) : effO P G K f ops o ⟨e', h'⟩ = some x := by
  have hne : clsOf G f o ≠ .write := by rcases hc0 with h | h <;> rw [h] <;> simp
  unfold effO at hx ⊢
  simp only [ag.guard, callOf_agree ag] at hx ⊢
  split at hx
  · cases hx
  · exact hx
  · split at hx
    · rename_i hi
      rw [if_pos hi]
      split at hx <;> try cases hx
      rename_i g args hcall
      have ha := cls_call hi hne hcall
      simp only [ha, if_true] at hx ⊢
      exact hx
    · rename_i hi; rw [if_neg hi]; exact aop_indep hc0 ag hx

theorem effO_val {o : Oper} {s : St} {x : Eff} (hc0 : clsOf G f o ≠ .write) (hx : effO P G K f ops o s = some x) : ∃ v, x = .val v := by
  unfold effO at hx
  split at hx
  · cases hx
  · split at hx <;> cases hx; exact ⟨_, rfl⟩
  · split at hx
    · rename_i hi
      split at hx <;> try cases hx
      rename_i g args hcall
      have ha := cls_call hi hc0 hcall
      simp only [ha, if_true] at hx
      obtain ⟨_, _, rfl⟩ := Option.map_eq_some_iff.1 hx
      exact ⟨_, rfl⟩
    · exact aop_val hc0 hx

/-- What is written into a variable of the frame was one. -/
theorem aop_wbox {o : Oper} {e : Env} {h : Heap} {t : Nat} {cs : List AV} (hx : aop P G f e h o = some (.wbox t cs)) : ∃ ds, e t = .box ds := by
  by_cases hc0 : clsOf G f o = .write
  · unfold aop at hx
    simp only at hx
    split at hx <;> try (cases hx; done)
    case h_9 hop =>
      unfold aStore at hx
      split at hx <;> try cases hx
      split at hx <;> try cases hx
      split at hx
      · split at hx <;> try cases hx
        rename_i he
        obtain ⟨_, _, h⟩ := Option.map_eq_some_iff.1 hx
        cases h
        exact ⟨_, he⟩
      · split at hx <;> try cases hx
        obtain ⟨_, _, h⟩ := Option.map_eq_some_iff.1 hx
        cases h
      · cases hx
    all_goals try (rename_i hop; simp [clsOf, hop] at hc0; done)
    case h_4 hop =>
      split at hx <;> try cases hx
      split at hx <;> try cases hx
      split at hx
      · cases hx
      · split at hx <;> cases hx
    case h_5 hop =>
      split at hx <;> try cases hx
      split at hx <;> try cases hx
      split at hx
      · cases hx
      · split at hx <;> cases hx
    case h_16 hop =>
      unfold aMakeSlice at hx
      repeat' (split at hx <;> try cases hx)
    case h_23 hop =>
      unfold aMapUpdate at hx
      repeat' (split at hx <;> try cases hx)
    case h_24 hop =>
      repeat' (split at hx <;> try cases hx)
    case h_25 hop =>
      unfold aNext at hx
      repeat' (split at hx <;> try cases hx)
    case h_27 hop =>
      split at hx
      · simp [clsOf, hop] at hc0
      · unfold aAppend grown at hx
        repeat' (split at hx <;> try cases hx)
      · cases hx
      · cases hx
      · cases hx
  · obtain ⟨v, h⟩ := aop_val hc0 hx
    cases h

theorem effO_wbox {o : Oper} {s : St} {t : Nat} {cs : List AV} (hx : effO P G K f ops o s = some (.wbox t cs)) : ∃ ds, s.env t = .box ds := by
  unfold effO at hx
  split at hx
  · cases hx
  · split at hx <;> cases hx
  · split at hx
    · split at hx <;> try cases hx
      split at hx
      · obtain ⟨_, _, h⟩ := Option.map_eq_some_iff.1 hx; cases h
      · obtain ⟨_, _, h⟩ := Option.map_eq_some_iff.1 hx; cases h
    · exact aop_wbox hx
end
end Go.Proofs.YtdnhhdplcminlaaGreatDoor.AI
