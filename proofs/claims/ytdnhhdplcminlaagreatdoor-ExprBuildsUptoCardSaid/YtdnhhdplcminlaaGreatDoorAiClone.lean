/- slices.Clone and the awake check, told; the tables that the laws use fit the program. -/
import Derived.Test.YtdnhhdplcminlaaGreatDoorAiKOk4
import Derived.Test.YtdnhhdplcminlaaGreatDoorAiAwake
set_option maxHeartbeats 1000000
set_option maxRecDepth 100000
set_option linter.unusedVariables false
set_option linter.unusedSimpArgs false
set_option linter.unusedSectionVars false
namespace Go.Proofs.YtdnhhdplcminlaaGreatDoor.AI
variable [Nu]

section
variable {P : Program} {G G' : Cfg}
theorem HS.swap {E : Nat → Nat → Prop} {L : Lay} {ob : Key → Option AObj} {len : Nat} {w : World} (hg : G'.glob = G.glob) (hi : G'.ints = G.ints) (H : HS P G E L ob len w) : HS P G' E L ob len w :=
  ⟨H.objs, H.lt, H.inj, H.ne, H.eold, fun g cs h => H.glob g cs (by rw [← hg]; exact h), H.idlt, fun g h => H.ints g (by rw [← hi]; exact h)⟩
theorem HeapCall.swap {g : FuncId} {args : List AV} {h h' : Heap} {v : AV} (hg : G'.glob = G.glob) (hi : G'.ints = G.ints) (C : HeapCall P G g args h v h') : HeapCall P G' g args h v h' :=
  ⟨C.1, fun E L w vs H hr => (C.2 E L w vs (H.swap hg.symm hi.symm) hr).mono fun e w' ⟨c, L', he, H', hp, hrep⟩ => ⟨c, L', he, H'.swap hg hi, hp, hrep⟩⟩
theorem PlainCall.swap {g : FuncId} {args : List AV} {v : AV} (hg : G'.glob = G.glob) (hi : G'.ints = G.ints) (C : PlainCall P G g args v) : PlainCall P G' g args v :=
  ⟨C.1, fun E L ob len w vs H hr => C.2 E L ob len w vs (H.swap hg.symm hi.symm) hr⟩

/-- Another result that stands for the same. -/
theorem HeapCall.res {g : FuncId} {args : List AV} {h h' : Heap} {v v' : AV} (C : HeapCall P G g args h v h') (hv : ∀ (X : RC) (c : Value), Rep X v c → Rep X v' c) : HeapCall P G g args h v' h' :=
  ⟨C.1, fun E L w vs H hr => (C.2 E L w vs H hr).mono fun e w' ⟨c, L', he, H', hp, hrep⟩ => ⟨c, L', he, H', hp, hv _ _ hrep⟩⟩
theorem PlainCall.res {g : FuncId} {args : List AV} {v v' : AV} (C : PlainCall P G g args v) (hv : ∀ (X : RC) (c : Value), Rep X v c → Rep X v' c) : PlainCall P G g args v' :=
  ⟨C.1, fun E L ob len w vs H hr => (C.2 E L ob len w vs H hr).mono fun e w' ⟨c, he, hf, hrep⟩ => ⟨c, he, hf, hv _ _ hrep⟩⟩

theorem one_arg {X : RC} {v : AV} {vs : List Value} (h : RepL X [v] vs) : ∃ c, vs = [c] ∧ Rep X v c := by
  obtain ⟨c, us, rfl, h1, h2⟩ := h.uncons
  have : us = [] := List.eq_nil_of_length_eq_zero h2.1
  subst this
  exact ⟨c, rfl, h1⟩
theorem arg_one {X : RC} {v : AV} {c : Value} (h : Rep X v c) : RepL X [v] [c] := RepL.cons h (RepL.nil _)

/-- A slice that came in: nil, empty, or with elements. -/
theorem sl_cases {X : RC} {fl : Bool} {n : Nat} {cs : List AV} {c : Value} (h : Rep X (.sl fl n cs) c) : (n = 0 ∧ (Rep X .nilsl c ∨ Rep X .se c)) ∨ 0 < n := by
  cases h with
  | sl _ _ _ a cap vs hn hm hf hS hR =>
    rcases Nat.eq_zero_or_pos n with h0 | h0
    · subst h0
      exact .inl ⟨rfl, .inr (.se a cap hm)⟩
    · exact .inr h0
  | slN _ => exact .inl ⟨rfl, .inl .nilsl⟩
theorem sl_weak {X : RC} {fl : Bool} {n : Nat} {cs : List AV} {c : Value} (h : Rep X (.sl fl n cs) c) : Rep X (.sl false n cs) c := by
  cases h with
  | sl _ _ _ a cap vs hn hm hf hS hR => exact .sl false n cs a cap vs hn hm (fun h => by cases h) hS hR
  | slN _ => exact .slN false
end

section
variable {G : Cfg}
/-- A clone of elements, from what is said of nil, empty and full slices. -/
theorem clone_heap {f sz : Nat} (h0 : ∀ h, HeapCall Tryz.prog G f [.nilsl] h (.tk 0 0 []) h) (h1 : ∀ h, HeapCall Tryz.prog G f [.se] h (.sl true 0 []) h)
    (h2 : ∀ (n : Nat) (cs : List AV) (h : Heap), cs.length = (n + 1) * sz → n + 1 ≤ maxN → HeapCall Tryz.prog G f [.sl false (n + 1) cs] h (.ms h.length 0 (n + 1) cs.length) (h ++ [some (.arr cs)]))
    {args : List AV} {h h' : Heap} {v : AV} (he : hCloneV sz args h = some (v, h')) : HeapCall Tryz.prog G f args h v h' := by
  unfold hCloneV at he
  split at he
  · rename_i _ fl n cs
    by_cases hn : n = 0
    · rw [if_pos hn] at he
      simp only [Option.some.injEq, Prod.mk.injEq] at he
      obtain ⟨rfl, rfl⟩ := he
      refine ⟨(h0 h).1, fun E L w vs H hr => ?_⟩
      obtain ⟨c, rfl, hc⟩ := one_arg hr
      rcases sl_cases hc with ⟨_, hc | hc⟩ | hp
      · exact ((h0 h).res (v' := .ms 0 0 0 0) (fun X c h => by
          cases h with
          | tk _ _ _ a cap vs e m c hpos => exact absurd hpos (Nat.lt_irrefl 0)
          | tkN _ => exact .msN 0 0)).2 E L w _ H (arg_one hc)
      · exact ((h1 h).res (v' := .ms 0 0 0 0) (fun X c h => by
          rcases sl_cases h with ⟨_, h | h⟩ | h
          · cases h; exact .msN 0 0
          · cases h with
            | se a cap hm => exact .ms 0 0 0 0 a cap (Nat.zero_le _) hm (fun h => absurd h (Nat.lt_irrefl 0)) (fun h => absurd h (Nat.lt_irrefl 0)) (fun h => absurd h (Nat.lt_irrefl 0))
          · exact absurd h (Nat.lt_irrefl 0))).2 E L w _ H (arg_one hc)
      · omega
    · rw [if_neg hn] at he
      split at he <;> try cases he
      rename_i hcond
      obtain ⟨k, rfl⟩ : ∃ k, n = k + 1 := ⟨n - 1, by omega⟩
      refine ⟨(h0 h).1, fun E L w vs H hr => ?_⟩
      obtain ⟨c, rfl, hc⟩ := one_arg hr
      exact (h2 k cs h hcond.1 hcond.2).2 E L w _ H (arg_one (sl_weak hc))
  · cases he
end
end Go.Proofs.YtdnhhdplcminlaaGreatDoor.AI
