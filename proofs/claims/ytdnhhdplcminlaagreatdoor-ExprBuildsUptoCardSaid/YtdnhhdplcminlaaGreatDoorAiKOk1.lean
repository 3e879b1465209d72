/- The calculus says what the interpreter says: operations read the frame through their operands alone; operations that fail at some numbers. -/
import Derived.Test.YtdnhhdplcminlaaGreatDoorAiK
set_option maxHeartbeats 400000
set_option linter.unusedVariables false
set_option linter.unusedSimpArgs false
set_option linter.unusedSectionVars false
namespace Go.Proofs.YtdnhhdplcminlaaGreatDoor.AI

theorem Evt.of {p : Nat → Prop} (h : ∀ m, p m) : Evt p := ⟨0, fun m _ => h m⟩
theorem Evt.and {p q : Nat → Prop} (h : Evt p) (k : Evt q) : Evt fun m => p m ∧ q m := by
  obtain ⟨a, h⟩ := h
  obtain ⟨b, k⟩ := k
  exact ⟨max a b, fun m hm => ⟨h m (by omega), k m (by omega)⟩⟩
theorem Evt.mono {p q : Nat → Prop} (h : Evt p) (k : ∀ m, p m → q m) : Evt q := by
  obtain ⟨a, h⟩ := h
  exact ⟨a, fun m hm => k m (h m hm)⟩
theorem Evt.next {p q : Nat → Prop} (h : Evt p) (k : ∀ m, p m → q (m + 1)) : Evt q := by
  obtain ⟨a, h⟩ := h
  refine ⟨a + 1, fun m hm => ?_⟩
  obtain ⟨m', rfl⟩ : ∃ m', m = m' + 1 := ⟨m - 1, by omega⟩
  exact k m' (h m' (by omega))

section
variable {P : Program} {G : Cfg}

theorem evalO_eq {e e' : Env} {x : Operand} (h : match x with | .tmp t => e t = e' t | _ => True) : evalO G e x = evalO G e' x := by
  cases x with
  | tmp t => simp only [evalO]; rw [show e t = e' t from h]
  | _ => rfl

/-- Two frames with the same variables. -/
def Boxes (e e' : Env) : Prop := ∀ b cs, e b = .box cs ↔ e' b = .box cs

theorem boxes_match {α : Type} {e e' : Env} (h : Boxes e e') (b : Nat) (X : List AV → α) (y : α) : (match e b with | .box cs => X cs | _ => y) = (match e' b with | .box cs => X cs | _ => y) := by
  by_cases hb : ∃ cs, e b = .box cs
  · obtain ⟨cs, hb⟩ := hb
    rw [hb, (h b cs).1 hb]
  · have hb' : ¬ ∃ cs, e' b = .box cs := fun ⟨cs, h'⟩ => hb ⟨cs, (h b cs).2 h'⟩
    have e1 : (match e b with | .box cs => X cs | _ => y) = y := by
      split
      · rename_i cs hc; exact absurd ⟨cs, hc⟩ hb
      · rfl
    have e2 : (match e' b with | .box cs => X cs | _ => y) = y := by
      split
      · rename_i cs hc; exact absurd ⟨cs, hc⟩ hb'
      · rfl
    rw [e1, e2]

theorem readP_congr {e e' : Env} (h : Boxes e e') (hp : Heap) (p : AV) (n : Nat) : readP e hp p n = readP e' hp p n := by
  unfold readP
  split
  · exact boxes_match h _ _ _
  · rfl
  · rfl
  · rfl

theorem aStore_congr {e e' : Env} (h : Boxes e e') (hp : Heap) (t : TypeId) (p v : AV) : aStore P e hp t p v = aStore P e' hp t p v := by
  unfold aStore
  split
  · split
    · rfl
    · split
      · exact boxes_match h _ _ _
      · rfl
      · rfl
  · rfl

theorem parts_congr {e e' : Env} {ps : List (Nat × Operand)} (h : ∀ x ∈ ps.map (·.2), evalO G e x = evalO G e' x) : (ps.map fun q => (q.1, evalO G e q.2)) = ps.map fun q => (q.1, evalO G e' q.2) :=
  List.map_congr_left fun q hq => by rw [h q.2 (List.mem_map.2 ⟨q, hq, rfl⟩)]

theorem args_congr {e e' : Env} {xs : List Operand} (h : ∀ x ∈ xs, evalO G e x = evalO G e' x) : xs.map (evalO G e) = xs.map (evalO G e') :=
  List.map_congr_left h

theorem opt_congr {e e' : Env} {x : Option Operand} (h : ∀ y ∈ x.toList, evalO G e y = evalO G e' y) : x.map (evalO G e) = x.map (evalO G e') := by
  cases x with
  | none => rfl
  | some y => simp [h y (by simp)]

theorem callOf_congr {e e' : Env} {o : Oper} (h : ∀ x ∈ o.op.operands.toList, evalO G e x = evalO G e' x) : callOf G e o = callOf G e' o := by
  unfold callOf
  split
  · rename_i x args ts hop
    have h1 : evalO G e x = evalO G e' x := h x (by simp [hop, Op.operands, Call.operands])
    have h2 := args_congr (xs := args.toList) fun y hy => h y (by simp only [hop, Op.operands, Call.operands, Array.toList_append, List.mem_append]; exact .inr hy)
    simp only [h1, h2]
  · rfl

theorem aop_congr {f : FuncId} {e e' : Env} {hp : Heap} {o : Oper} (h : ∀ x ∈ o.op.operands.toList, evalO G e x = evalO G e' x) (hb : Boxes e e') (hv : isVar o = true → ∀ d, o.dst = some d → e d = e' d) : aop P G f e hp o = aop P G f e' hp o := by
  unfold aop
  cases hop : o.op with
  | alloc t =>
    have hv := hv (by simp [isVar, hop])
    simp only
    split
    · rename_i z sz d hz hs hd
      rw [hv d hd]
    · rfl
  | box t x =>
    have hv := hv (by simp [isVar, hop])
    simp only [h x (by simp [hop, Op.operands])]
    split
    · rename_i sz d hs hd
      rw [hv d hd]
    · rfl
  | build t ps => simp only [parts_congr (ps := ps.toList) (fun x hx => h x (by simpa [hop, Op.operands] using hx))]
  | buildSlice t n ps => simp only [parts_congr (ps := ps.toList) (fun x hx => h x (by simpa [hop, Op.operands] using hx))]
  | load t x => simp only [h x (by simp [hop, Op.operands]), readP_congr hb]
  | store t x y => simp only [h x (by simp [hop, Op.operands]), h y (by simp [hop, Op.operands]), aStore_congr hb]
  | makeFunc fn first caps => simp only [args_congr (xs := caps.toList) (fun x hx => h x (by simp only [hop, Op.operands, Array.toList_append, List.mem_append]; exact .inr hx))]
  | slice t x lo hi mx =>
    simp only [h x (by simp [hop, Op.operands]), opt_congr (x := lo) (fun y hy => h y (by simp only [hop, Op.operands, Array.toList_append, List.mem_append]; simp only [Option.mem_toList] at hy; subst hy; simp)), opt_congr (x := hi) (fun y hy => h y (by simp only [hop, Op.operands, Array.toList_append, List.mem_append]; simp only [Option.mem_toList] at hy; subst hy; simp)), opt_congr (x := mx) (fun y hy => h y (by simp only [hop, Op.operands, Array.toList_append, List.mem_append]; simp only [Option.mem_toList] at hy; subst hy; simp))]
  | call c =>
    obtain ⟨callee, args, ts⟩ := c
    have h2 := args_congr (xs := args.toList) fun y hy => h y (by simp only [hop, Op.operands, Call.operands, Array.toList_append, List.mem_append]; exact .inr hy)
    cases callee with
    | builtin b => simp only [h2]
    | value x => rfl
    | invoke x m => rfl
  | makeMap t r => cases r <;> rfl
  | next x b => cases b <;> simp only [h x (by simp [hop, Op.operands])]
  | pick c a b => simp only [h c (by simp [hop, Op.operands]), h a (by simp [hop, Op.operands]), h b (by simp [hop, Op.operands])]
  | mapUpdate t m k v => simp only [h m (by simp [hop, Op.operands]), h k (by simp [hop, Op.operands]), h v (by simp [hop, Op.operands])]
  | binOp op t x y k => simp only [h x (by simp [hop, Op.operands]), h y (by simp [hop, Op.operands])]
  | makeSlice t x y => simp only [h x (by simp [hop, Op.operands]), h y (by simp [hop, Op.operands])]
  | indexAddr t x y => simp only [h x (by simp [hop, Op.operands]), h y (by simp [hop, Op.operands])]
  | index t x y => simp only [h x (by simp [hop, Op.operands]), h y (by simp [hop, Op.operands])]
  | lookup t x y b => simp only [h x (by simp [hop, Op.operands]), h y (by simp [hop, Op.operands])]
  | move x => simp only [h x (by simp [hop, Op.operands])]
  | assign x => simp only [h x (by simp [hop, Op.operands])]
  | nilCheck x => simp only [h x (by simp [hop, Op.operands])]
  | unOp op t x => simp only [h x (by simp [hop, Op.operands])]
  | convert s d x => simp only [h x (by simp [hop, Op.operands])]
  | fieldAddr s x i => simp only [h x (by simp [hop, Op.operands])]
  | field s x i => simp only [h x (by simp [hop, Op.operands])]
  | range t x => simp only [h x (by simp [hop, Op.operands])]
  | extract x i => simp only [h x (by simp [hop, Op.operands])]
  | _ => rfl

theorem bin_c {op : BinOp} {t : TypeId} {x y v : AV} {c : Prop} (h : binC op x y = some (c, v)) (hc : c) : aBin P G op t x y = some v := by
  unfold binC at h
  split at h <;> try cases h
  · split at h <;> cases h
    rename_i hk
    simp only [aBin, if_neg hk, if_neg hc]
  · split at h <;> cases h
    rename_i hk
    simp only [aBin, if_neg hk, if_neg hc]
  · simp only [aBin]
    rw [if_neg (by omega)]
  · simp only [aBin]
    rw [if_neg (by omega)]
  · simp only [aBin, if_pos hc]

theorem index_c {t : TypeId} {x i v : AV} {c : Prop} (h : indexC P t x i = some (c, v)) (hc : c) : indexPtr P t x i = some v := by
  unfold indexC at h
  unfold indexPtr
  split at h <;> try cases h
  rename_i k i
  split at h <;> try cases h
  · rename_i e hu
    split at h <;> try cases h
    rename_i sz hs
    simp only [hu, hs]
    split at h <;> cases h <;> simp only [if_pos hc]
  · rename_i n e hu
    split at h <;> try cases h
    rename_i sz hs
    split at h <;> cases h
    rename_i p hp
    simp only [hu, hs, if_pos hc]
    exact hp

theorem indexV_c {t : TypeId} {x i v : AV} {c : Prop} (h : indexVC P t x i = some (c, v)) (hc : c) : indexVal P t x i = some v := by
  unfold indexVC at h
  unfold indexVal
  split at h <;> try cases h
  rename_i k i
  split at h <;> cases h
  rename_i s hu
  have hlt : i.toNat < s.length := by omega
  simp only [hu]
  rw [if_pos hc.1, List.getElem?_eq_getElem hlt]
  simp [hlt]

theorem bnd_c {v : Option AV} {d y n : Nat} {c : Prop} (h : bndC v d y = some (c, n)) (hc : c) : boundV v d y = some n := by
  unfold bndC at h
  unfold boundV
  split at h <;> cases h
  · rfl
  · simp only [if_pos hc]

theorem slice_c {t : TypeId} {x v : AV} {lo hi mx : Option AV} {c : Prop} (h : sliceC P t x lo hi mx = some (c, v)) (hc : c) : aSlice P t x lo hi mx = some v := by
  unfold sliceC at h
  unfold aSlice
  split at h <;> try cases h
  split at h <;> try cases h
  · rename_i s hu
    split at h <;> try cases h
    rename_i c1 hh h1
    split at h <;> cases h
    rename_i c2 l h2
    simp only [hu, bnd_c h1 hc.1, bnd_c h2 hc.2]
  · rename_i e n cs hu
    split at h <;> try cases h
    rename_i sz c1 hh hs h1
    split at h <;> cases h
    rename_i c2 l h2
    simp only [hu, hs, show boundV none n n = some n from rfl, Option.map_none, bnd_c h1 hc.1, bnd_c h2 hc.2]
    simp
  · rename_i e id n cs hu
    split at h <;> try cases h
    rename_i sz c1 hh hs h1
    split at h <;> cases h
    rename_i c2 l h2
    simp only [hu, hs, show boundV none n n = some n from rfl, Option.map_none, bnd_c h1 hc.1, bnd_c h2 hc.2]
    simp
end
end Go.Proofs.YtdnhhdplcminlaaGreatDoor.AI
