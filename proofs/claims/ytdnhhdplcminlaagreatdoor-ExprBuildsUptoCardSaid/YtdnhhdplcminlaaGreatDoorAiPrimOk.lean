/- The functions of Go's library that are told by plain functions. -/
import Derived.Test.YtdnhhdplcminlaaGreatDoorAiFun
import Derived.Test.YtdnhhdplcminlaaGreatDoorAiPrim
import Derived.Test.YtdnhhdplcminlaaGreatDoorShelf
set_option maxHeartbeats 400000
set_option linter.unusedVariables false
set_option linter.unusedSimpArgs false
set_option linter.unusedSectionVars false
namespace Go.Proofs.YtdnhhdplcminlaaGreatDoor.AI
variable [Nu]

theorem splitK_eq (b : UInt8) : ∀ l : List UInt8, Lib.splitK [b] 0 (l.count b) l = splitB b l
  | [] => rfl
  | c :: r => by
    have ih := splitK_eq b r
    by_cases hc : c = b
    · subst hc
      have hix : Lib.index (c :: r) [c] = ((0 : Nat) : Int) := by rw [Lib.index]; simp [List.isPrefixOf]
      rw [List.count_cons_self, Lib.splitK, hix]
      simp [splitB, ih]
    · have hcount : (c :: r).count b = r.count b := List.count_cons_of_ne (by simpa using hc)
      have hp : ([b] : List UInt8).isPrefixOf (c :: r) = false := by simp [List.isPrefixOf]; exact fun h => hc h.symm
      have hix : Lib.index (c :: r) [b] = if Lib.index r [b] == -1 then -1 else Lib.index r [b] + 1 := by rw [Lib.index, hp]; simp
      rw [hcount]
      simp only [splitB, if_neg hc]
      cases hk : r.count b with
      | zero =>
        rw [hk] at ih
        rw [← ih]
        rfl
      | succ k =>
        rw [hk] at ih
        rw [← ih]
        simp only [Lib.splitK]
        by_cases hm : Lib.index r [b] = -1
        · rw [hix]
          simp [hm]
        · have hge := Lib.index_ge r [b]
          obtain ⟨j, hj⟩ : ∃ j : Nat, Lib.index r [b] = j := ⟨(Lib.index r [b]).toNat, by omega⟩
          have e1 : ¬ ((j : Int) == -1) = true := by rw [beq_iff_eq]; omega
          have e2 : ¬ ((j : Int) + 1 == -1) = true := by rw [beq_iff_eq]; omega
          rw [hix, hj, if_neg e1, if_neg e2, if_neg e1]
          have e3 : ((j : Int) + 1).toNat = j + 1 := by omega
          simp [e3]

theorem join_eq (sep : List UInt8) : ∀ l : List (List UInt8), Lib.join l sep = joinB sep l
  | [] => rfl
  | [x] => Lib.join_one x sep
  | x :: y :: r => by
    have ih := join_eq sep (y :: r)
    rw [Lib.join_cons] at ih ⊢
    simp only [joinB, Lib.joinTail, List.map_cons, List.flatten_cons, List.append_assoc] at ih ⊢
    rw [ih]

theorem cell_spot {w : World} {a : Addr} {v : Value} (h : w.cell? a = some v) : a.spot = none := by
  unfold World.cell? at h
  split at h <;> try cases h
  split at h <;> try cases h
  rename_i hs
  simpa using hs

section
variable {P : Program} {G : Cfg}

theorem strs_ok {X : RC} : ∀ {cs : List AV} {l : List (List UInt8)} {vs : Nat → Value}, strsOf cs = some l → (∀ j (hj : j < cs.length), Rep X cs[j] (vs j)) → l.length = cs.length ∧ ∀ j s, l[j]? = some s → vs j = .string ⟨s.toArray⟩
  | [], l, vs, h, _ => by
    simp only [strsOf, Option.some.injEq] at h
    subst h
    exact ⟨rfl, fun j s hj => by simp at hj⟩
  | .str s :: cs, l, vs, h, hr => by
    simp only [strsOf] at h
    split at h <;> try cases h
    rename_i l' hl
    obtain ⟨h1, h2⟩ := strs_ok (vs := fun j => vs (j + 1)) hl (fun j hj => hr (j + 1) (Nat.succ_lt_succ hj))
    refine ⟨by simp [h1], fun j t hj => ?_⟩
    cases j with
    | zero =>
      simp only [List.getElem?_cons_zero, Option.some.injEq] at hj
      subst hj
      have := hr 0 (Nat.zero_lt_succ _)
      simp only [List.getElem_cons_zero] at this
      generalize vs 0 = v at this
      cases this
      rfl
    | succ j => exact h2 j t (by simpa using hj)
  | .undef :: _, l, vs, h, _ => by simp [strsOf] at h
  | .skip :: _, l, vs, h, _ => by simp [strsOf] at h
  | .bool _ :: _, l, vs, h, _ => by simp [strsOf] at h
  | .int _ _ :: _, l, vs, h, _ => by simp [strsOf] at h
  | .sym _ _ :: _, l, vs, h, _ => by simp [strsOf] at h
  | .nilp :: _, l, vs, h, _ => by simp [strsOf] at h
  | .ptr _ _ :: _, l, vs, h, _ => by simp [strsOf] at h
  | .ip _ _ :: _, l, vs, h, _ => by simp [strsOf] at h
  | .nilsl :: _, l, vs, h, _ => by simp [strsOf] at h
  | .sl _ _ _ :: _, l, vs, h, _ => by simp [strsOf] at h
  | .tk _ _ _ :: _, l, vs, h, _ => by simp [strsOf] at h
  | .ms _ _ _ _ :: _, l, vs, h, _ => by simp [strsOf] at h
  | .nilmap :: _, l, vs, h, _ => by simp [strsOf] at h
  | .mapv _ :: _, l, vs, h, _ => by simp [strsOf] at h
  | .nilfn :: _, l, vs, h, _ => by simp [strsOf] at h
  | .fn _ _ :: _, l, vs, h, _ => by simp [strsOf] at h
  | .nilif :: _, l, vs, h, _ => by simp [strsOf] at h
  | .agg _ :: _, l, vs, h, _ => by simp [strsOf] at h
  | .tup _ :: _, l, vs, h, _ => by simp [strsOf] at h
  | .box _ :: _, l, vs, h, _ => by simp [strsOf] at h
  | .bp _ _ :: _, l, vs, h, _ => by simp [strsOf] at h
  | .it _ :: _, l, vs, h, _ => by simp [strsOf] at h

theorem reps2 {X : RC} {x y : AV} {vs : List Value} (h : RepL X [x, y] vs) : ∃ c d, vs = [c, d] ∧ Rep X x c ∧ Rep X y d := by
  obtain ⟨c, vs, rfl, h1, h2⟩ := h.uncons
  obtain ⟨d, vs, rfl, h3, h4⟩ := h2.uncons
  have : vs = [] := List.eq_nil_of_length_eq_zero h4.1
  subst this
  exact ⟨c, d, rfl, h1, h3⟩

theorem count_plain {g : FuncId} (hen : Enters P g) (hc : ∀ (s : ByteArray) (c : UInt8) (w : World), Calls P g #[.string s, .string ⟨#[c]⟩] w fun e w' => e = .returned (.int .i64 (Lib.countByte s.data.toList c)) ∧ w' = w) {args : List AV} {v : AV} (h : pCount args = some v) :
    PlainCall P G g args v := by
  unfold pCount at h
  split at h <;> try cases h
  rename_i s b
  refine ⟨hen, fun E L ob len w vs H hr => ?_⟩
  obtain ⟨c, d, rfl, h1, h2⟩ := reps2 hr
  cases h1
  cases h2
  refine (hc ⟨s.toArray⟩ b w).mono fun e w' ⟨he, hw⟩ => ⟨_, he, ?_, ?_⟩
  · rw [hw]; exact Fr.refl _ _
  · simp only [Lib.countByte]
    exact .int _ _

theorem split_plain {g : FuncId} {g1 : Nat} {t : TypeId} (hen : Enters P g) (hg : G.ints g1 = true)
    (hc : ∀ (s sep : ByteArray) (m : Int) (w : World), s.size < 4294967281 → w.cell? ⟨g1, 0, none⟩ = some (.int .i64 m) → 1 ≤ sep.size → Calls P g #[.string s, .string sep] w fun e w' =>
      e = .returned (.slice (some ⟨w.heap.size, 0, none⟩) (Lib.countB s sep + 1) (Lib.countB s sep + 1)) ∧ w' = w.alloc (.cells ((Lib.splitB sep 0 (Lib.countB s sep) s).map Value.string).toArray t)) {args : List AV} {v : AV} (h : pSplit args = some v) :
    PlainCall P G g args v := by
  unfold pSplit at h
  split at h <;> try cases h
  rename_i s b
  split at h <;> try cases h
  rename_i hlen
  refine ⟨hen, fun E L ob len w vs H hr => ?_⟩
  obtain ⟨c, d, rfl, h1, h2⟩ := reps2 hr
  cases h1
  cases h2
  obtain ⟨m, hm, _⟩ := H.ints g1 hg
  have hsz : (⟨s.toArray⟩ : ByteArray).size = s.length := by simp [ByteArray.size]
  refine (hc ⟨s.toArray⟩ ⟨#[b]⟩ m w (by rw [hsz]; exact hlen) hm (by simp [ByteArray.size])).mono fun e w' ⟨he, hw⟩ => ⟨_, he, ?_, ?_⟩
  · rw [hw]; exact Fr.alloc _ _ _
  · have hcount : Lib.countB ⟨s.toArray⟩ ⟨#[b]⟩ = s.count b := Lib.count_one b s
    have hd := Lib.splitB_data ⟨#[b]⟩ 0 (s.count b) ⟨s.toArray⟩
    rw [show (⟨#[b]⟩ : ByteArray).data.toList = [b] from rfl, show (⟨s.toArray⟩ : ByteArray).data.toList = s by simp, splitK_eq] at hd
    have hall := Lib.splitB_all ⟨#[b]⟩ (by simp [ByteArray.size]) 0 (s.count b) ⟨s.toArray⟩ hcount
    rw [hcount, hw, hcount]
    generalize Lib.splitB ⟨#[b]⟩ 0 (s.count b) ⟨s.toArray⟩ = bs at hd hall
    have hl : (splitB b s).length = s.count b + 1 := by rw [← hd]; simp [hall]
    rw [← hl]
    have hrep : RepC (rc E L ob len w) ((splitB b s).map .str) (bs.map Value.string) := by
      rw [← hd]
      refine ⟨by simp, fun v hv => ?_, fun j hj => ?_⟩
      · obtain ⟨x, _, rfl⟩ := List.mem_map.1 hv
        rfl
      · simp only [List.length_map] at hj
        simp only [List.getElem_map, List.getD_eq_getElem?_getD, List.getElem?_map, List.getElem?_eq_getElem hj, Option.map_some, Option.getD_some]
        have := Rep.str (X := rc E L ob len w) bs[j].data.toList
        simpa using this
    have := rep_new (P := P) (G := G) (E := E) (L := L) (e := t) (n := (splitB b s).length) H hrep (by
      rw [hl]
      have := List.count_le_length (a := b) (l := s)
      simp only [maxLen]
      omega)
    rcases this.sl_inv with ⟨a, cap, vs, h1, h2, h3, h4, h5, h6⟩ | ⟨_, _, h1⟩
    case inr => simp at h1
    simp only [Value.slice.injEq, Option.some.injEq] at h1
    obtain ⟨rfl, _, rfl⟩ := h1
    exact .sl false _ _ _ _ vs h2 h3 (by simp) h5 h6

theorem join_plain {g : FuncId} (hen : Enters P g) (hc0 : ∀ (a : Option Addr) (c : Nat) (sep : ByteArray) (w : World), Calls P g #[.slice a 0 c, .string sep] w fun e w' => e = .returned (.string ⟨#[]⟩) ∧ w' = w)
    (hc : ∀ (bk o c : Nat) (xs : List ByteArray) (sep : ByteArray) (w : World), (∀ (j : Nat) x, xs[j]? = some x → w.cell? ⟨bk, o + j, none⟩ = some (.string x)) → bk < w.heap.size → xs.length ≤ 140737488355328 → xs.length ≤ c → (Lib.join (xs.map (·.data.toList)) sep.data.toList).length ≤ 140737488355328 →
      Calls P g #[.slice (some ⟨bk, o, none⟩) xs.length c, .string sep] w fun e w' => e = .returned (.string ⟨(Lib.join (xs.map (·.data.toList)) sep.data.toList).toArray⟩) ∧ Go.RowKit.Below w.heap.size w w') {args : List AV} {v : AV} (h : pJoin args = some v) :
    PlainCall P G g args v := by
  unfold pJoin at h
  split at h <;> try cases h
  · rename_i sep
    refine ⟨hen, fun E L ob len w vs H hr => ?_⟩
    obtain ⟨c, d, rfl, h1, h2⟩ := reps2 hr
    cases h1
    cases h2
    refine (hc0 none 0 ⟨sep.toArray⟩ w).mono fun e w' ⟨he, hw⟩ => ⟨_, he, ?_, ?_⟩
    · rw [hw]; exact Fr.refl _ _
    · exact Rep.str []
  · rename_i full n cs sep
    split at h <;> try cases h
    rename_i hn
    obtain ⟨l, hl, h⟩ := Option.bind_eq_some_iff.1 h
    split at h <;> try cases h
    rename_i hb
    refine ⟨hen, fun E L ob len w vs H hr => ?_⟩
    obtain ⟨c, d, rfl, h1, h2⟩ := reps2 hr
    cases h2
    rcases h1.sl_inv with ⟨a, cap, us, rfl, h3, h4, h5, h6, h7⟩ | ⟨rfl, rfl, rfl⟩
    case inr =>
      have : l = [] := by
        have h0 : strsOf [] = some ([] : List (List UInt8)) := rfl
        rw [h0] at hl
        exact (Option.some.inj hl).symm
      subst this
      refine (hc0 none 0 ⟨sep.toArray⟩ w).mono fun e w' ⟨he, hw⟩ => ⟨_, he, ?_, ?_⟩
      · rw [hw]; exact Fr.refl _ _
      · exact Rep.str []
    obtain ⟨s1, s2⟩ := strs_ok hl h7
    by_cases h0 : n = 0
    · subst h0
      refine (hc0 (some a) cap ⟨sep.toArray⟩ w).mono fun e w' ⟨he, hw⟩ => ⟨_, he, ?_, ?_⟩
      · rw [hw]; exact Fr.refl _ _
      · have : l = [] := List.eq_nil_of_length_eq_zero (by omega)
        subst this
        exact Rep.str []
    · have hpos : 0 < cs.length := by omega
      obtain ⟨hc1, _, _⟩ := h6 0 hpos
      have hspot : a.spot = none := by
        have := cell_spot hc1
        rwa [show a.add 0 = a by unfold Addr.add; simp] at this
      obtain ⟨bk, o, sp⟩ := a
      simp only at hspot
      subst hspot
      have hadd : ∀ j, (⟨bk, o, none⟩ : Addr).add j = ⟨bk, o + j, none⟩ := fun j => by unfold Addr.add; split <;> simp_all
      have hmap : (l.map fun s => (⟨s.toArray⟩ : ByteArray)).map (·.data.toList) = l := by rw [List.map_map]; exact (List.map_congr_left (fun _ _ => by simp)).trans (List.map_id l)
      have hll : (l.map fun s => (⟨s.toArray⟩ : ByteArray)).length = n := by simp; omega
      have := hc bk o cap (l.map fun s => ⟨s.toArray⟩) ⟨sep.toArray⟩ w (fun j x hx => by
        simp only [List.getElem?_map] at hx
        obtain ⟨s, hs, rfl⟩ := Option.map_eq_some_iff.1 hx
        have hj : j < cs.length := by rw [← s1]; exact (List.getElem?_eq_some_iff.1 hs).1
        obtain ⟨q1, _, _⟩ := h6 j hj
        rw [hadd, s2 j s hs] at q1
        exact q1) (cell_lt (a := ⟨bk, o, none⟩) (v := us 0) (by have := hc1; rwa [hadd, Nat.add_zero] at this)) (by rw [hll]; omega) (by rw [hll]; exact h3) (by rw [hmap, join_eq]; simpa using hb.1)
      rw [hll, hmap, join_eq] at this
      refine this.mono fun e w' ⟨he, hw⟩ => ⟨_, he, ⟨hw.os, hw.tape, hw.output, hw.size, fun g hg _ => hw.block g hg⟩, ?_⟩
      have hs : (⟨sep.toArray⟩ : ByteArray).data.toList = sep := by simp
      rw [hs]
      exact Rep.str _
end
end Go.Proofs.YtdnhhdplcminlaaGreatDoor.AI
