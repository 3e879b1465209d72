/- What came in, as values and expressions of plain Lean. -/
import Derived.Test.YtdnhhdplcminlaaGreatDoorAiT
import Derived.Test.YtdnhhdplcminlaaGreatDoorAiTop
import Derived.Test.YtdnhhdplcminlaaGreatDoorRows
set_option maxHeartbeats 1000000
set_option maxRecDepth 100000
set_option linter.unusedVariables false
set_option linter.unusedSimpArgs false
set_option linter.unusedSectionVars false
namespace Go.Proofs.YtdnhhdplcminlaaGreatDoor.AI
open Go

section
variable {H : Type} {enc : TypeId × Value → H} {w : World} {spare : Nat → Bool} {held : Bool}

theorem avParts_cons {P : Program} {F : TypeId → DataW H → Option (List AV)} {off : Nat} {t : TypeId} {r : List (Nat × TypeId)} {x : DataW H} {xs : List (DataW H)} {cs ds : List AV} (h1 : F t x = some cs) (h2 : cs.length = P.cellsOf t) (h3 : avParts P F (off + cs.length) r xs = some ds) :
    avParts P F off ((off, t) :: r) (x :: xs) = some (cs ++ ds) := by
  simp [avParts, h1, h2]
  rw [← h2, h3]
theorem bulk_pos (d : DataW H) : 1 ≤ Rows.uptoBulk d := by
  cases d <;> try (simp [Rows.uptoBulk]; done)
  rename_i l
  cases l <;> simp [Rows.uptoBulk]
theorem bulk_mem : ∀ {l : List (DataW H)} {d : DataW H}, d ∈ l → Rows.uptoBulk d ≤ Rows.uptoBulkAll l
  | x :: r, d, h => by
    rw [Rows.uptoBulkAll]
    rcases List.mem_cons.1 h with rfl | h
    · omega
    · have := bulk_mem h; omega
theorem bulk_len : ∀ l : List (DataW H), l.length ≤ Rows.uptoBulkAll l
  | [] => Nat.le_refl _
  | x :: r => by
    have h1 := bulk_len r
    have h2 := bulk_pos x
    rw [Rows.uptoBulkAll, List.length_cons]
    omega

noncomputable def structOf (t : TypeId) : Array Field := match Tryz.prog.underlying t with | some (.struct fs) => fs | _ => #[]
def tV : List (Nat × TypeId) := [(0, 3), (1, 3), (2, 9), (3, 23), (4, 24)]
def tF : List (Nat × TypeId) := [(0, 9), (1, 26)]
def tE : List (Nat × TypeId) := [(0, 3), (1, 22), (2, 9), (3, 22), (4, 26), (9, 3), (10, 27)]
/-- The fields of a struct, by place and type. -/
def fieldsAre (t : TypeId) (l : List (Nat × TypeId)) : Prop := ∃ fs, Tryz.prog.underlying t = some (.struct fs) ∧ fs.toList.map (fun f => (f.offset, f.type)) = l
theorem fields26 : fieldsAre 26 tV := ⟨structOf 26, by kernel_rfl, by kernel_rfl⟩
theorem fields54 : fieldsAre 54 tF := ⟨structOf 54, by kernel_rfl, by kernel_rfl⟩
theorem fields29 : fieldsAre 29 tE := ⟨structOf 29, by kernel_rfl, by kernel_rfl⟩

abbrev Tr (fuel : Nat) (t : TypeId) (cs : List Value) (d : DataW H) (ps : List MemPlace) : Prop := DataW.trod enc Tryz.prog w 0 spare held fuel t cs = some (d, ps)
/-- The datum's cells, by any fuel that is enough. -/
def Avs (fuel : Nat) (t : TypeId) (d : DataW H) (av : List AV) : Prop := ∀ k, fuel ≤ k → avT Tryz.prog k t d = some av

theorem u3 : Tryz.prog.underlying 3 = some (.int .i64) := by kernel_rfl
theorem u9 : Tryz.prog.underlying 9 = some .string := by kernel_rfl
theorem u22 : Tryz.prog.underlying 22 = some (.slice 9) := by kernel_rfl
theorem u23 : Tryz.prog.underlying 23 = some (.slice 26) := by kernel_rfl
theorem u24 : Tryz.prog.underlying 24 = some (.slice 54) := by kernel_rfl
theorem u27 : Tryz.prog.underlying 27 = some (.slice 29) := by kernel_rfl
theorem k3 : Tryz.prog.cellsOf 3 = 1 := by kernel_rfl
theorem k9 : Tryz.prog.cellsOf 9 = 1 := by kernel_rfl
theorem k22 : Tryz.prog.cellsOf 22 = 1 := by kernel_rfl
theorem k23 : Tryz.prog.cellsOf 23 = 1 := by kernel_rfl
theorem k24 : Tryz.prog.cellsOf 24 = 1 := by kernel_rfl
theorem k26 : Tryz.prog.cellsOf 26 = 5 := by kernel_rfl
theorem k27 : Tryz.prog.cellsOf 27 = 1 := by kernel_rfl
theorem k29 : Tryz.prog.cellsOf 29 = 11 := by kernel_rfl
theorem k54 : Tryz.prog.cellsOf 54 = 6 := by kernel_rfl

theorem tr_pos {fuel : Nat} {t : TypeId} {cs : List Value} {d : DataW H} {ps : List MemPlace} (h : Tr (enc := enc) (w := w) (spare := spare) (held := held) fuel t cs d ps) : ∃ n, fuel = n + 1 := by
  cases fuel with
  | zero => simp [Tr, DataW.trod] at h
  | succ n => exact ⟨n, rfl⟩
theorem ty_int {fuel : Nat} {cs : List Value} {d : DataW H} {ps : List MemPlace} (h : Tr (enc := enc) (w := w) (spare := spare) (held := held) fuel 3 cs d ps) : ∃ n : Int, Avs fuel 3 d [.int .i64 n] := by
  obtain ⟨f', rfl⟩ := tr_pos h
  obtain ⟨n, _, hx, _⟩ := DataW.trod_int u3 h
  simp only [Prod.mk.injEq] at hx
  obtain ⟨rfl, _⟩ := hx
  refine ⟨n, fun k hk => ?_⟩
  obtain ⟨k', rfl⟩ : ∃ k', k = k' + 1 := ⟨k - 1, by omega⟩
  simp [avT, u3]
theorem ty_str {fuel : Nat} {cs : List Value} {d : DataW H} {ps : List MemPlace} (h : Tr (enc := enc) (w := w) (spare := spare) (held := held) fuel 9 cs d ps) : ∃ s : Str, Avs fuel 9 d [.str s] ∧ (Rows.uptoBulk d ≤ 536870912 → s.length ≤ 536870912) := by
  obtain ⟨f', rfl⟩ := tr_pos h
  obtain ⟨s, _, hx, _⟩ := DataW.trod_string u9 h
  simp only [Prod.mk.injEq] at hx
  obtain ⟨rfl, _⟩ := hx
  refine ⟨s.data.toList, fun k hk => ?_, fun hb => ?_⟩
  · obtain ⟨k', rfl⟩ : ∃ k', k = k' + 1 := ⟨k - 1, by omega⟩
    simp [avT, u9]
  · rw [Rows.uptoBulk] at hb
    omega

theorem elems_typed {α : Type} {f : α → List AV} {SmP : α → Prop} {n : Nat} {e : TypeId}
    (ih : ∀ (cs : List Value) (d : DataW H) (ps : List MemPlace), Tr (enc := enc) (w := w) (spare := spare) (held := held) n e cs d ps → ∃ a : α, Avs n e d (f a) ∧ (Rows.uptoBulk d ≤ 536870912 → SmP a)) :
    ∀ elems : List (DataW H × List MemPlace), (∀ x ∈ elems, ∃ cs, Tr (enc := enc) (w := w) (spare := spare) (held := held) n e cs x.1 x.2) →
      ∃ l : List α, l.length = elems.length ∧ (∀ k, n ≤ k → (elems.map (·.1)).mapM (avT Tryz.prog k e) = some (l.map f)) ∧ (Rows.uptoBulkAll (elems.map (·.1)) ≤ 536870912 → ∀ a ∈ l, SmP a)
  | [], _ => ⟨[], rfl, fun k _ => rfl, fun _ a ha => by cases ha⟩
  | x :: r, h => by
    obtain ⟨cs, hx⟩ := h x (by simp)
    obtain ⟨a, h1, h2⟩ := ih cs x.1 x.2 hx
    obtain ⟨l, g1, g2, g3⟩ := elems_typed ih r (fun y hy => h y (by simp [hy]))
    refine ⟨a :: l, by simp [g1], fun k hk => ?_, fun hb b hm => ?_⟩
    · simp [List.mapM_cons, h1 k hk, g2 k hk]
    · rw [List.map_cons, Rows.uptoBulkAll] at hb
      rcases List.mem_cons.1 hm with rfl | hm
      · exact h2 (by omega)
      · exact g3 (by omega) b hm
theorem slice_typed {α : Type} {f : α → List AV} {SmP : α → Prop} {n : Nat} {t e : TypeId} (hu : Tryz.prog.underlying t = some (.slice e))
    (ih : ∀ (cs : List Value) (d : DataW H) (ps : List MemPlace), Tr (enc := enc) (w := w) (spare := spare) (held := held) n e cs d ps → ∃ a : α, Avs n e d (f a) ∧ (Rows.uptoBulk d ≤ 536870912 → SmP a))
    {cs : List Value} {d : DataW H} {ps : List MemPlace} (h : Tr (enc := enc) (w := w) (spare := spare) (held := held) (n + 1) t cs d ps) :
    ∃ l : List α, Avs (n + 1) t d [.sl false l.length (l.flatMap f)] ∧ (Rows.uptoBulk d ≤ 536870912 → l.length ≤ 536870912 ∧ ∀ a ∈ l, SmP a) := by
  rcases DataW.trod_slice hu h with ⟨_, hx⟩ | ⟨a, len, cap, elems, rest, n', hn', _, hx, _, _, _, hel, hall, _, _⟩
  · simp only [Prod.mk.injEq] at hx
    obtain ⟨rfl, _⟩ := hx
    refine ⟨[], fun k hk => ?_, fun _ => ⟨by simp, fun a ha => by cases ha⟩⟩
    obtain ⟨k', rfl⟩ : ∃ k', k = k' + 1 := ⟨k - 1, by omega⟩
    simp [avT, hu]
  · simp only [Prod.mk.injEq] at hx
    obtain ⟨rfl, _⟩ := hx
    obtain rfl : n' = n := by omega
    obtain ⟨l, g1, g2, g3⟩ := elems_typed ih elems (fun x hx => by
      obtain ⟨i, hi, rfl⟩ := List.getElem_of_mem hx
      have := hall i (by omega)
      rw [List.getElem?_eq_getElem hi] at this
      obtain ⟨cs', _, h2⟩ := Option.bind_eq_some_iff.1 this
      exact ⟨cs', h2⟩)
    refine ⟨l, fun k hk => ?_, fun hb => ?_⟩
    · obtain ⟨k', rfl⟩ : ∃ k', k = k' + 1 := ⟨k - 1, by omega⟩
      simp only [avT, hu, g2 k' (by omega), List.length_map, g1]
      rw [List.flatMap_def]
    · have hbl := bulk_len (elems.map (·.1))
      rw [Rows.uptoBulk] at hb
      rw [List.length_map] at hbl
      exact ⟨by omega, g3 (by omega)⟩

/-- The parts of a struct. -/
theorem struct_parts {t : TypeId} {l : List (Nat × TypeId)} (hf : fieldsAre t l) {fuel : Nat} {cs : List Value} {d : DataW H} {ps : List MemPlace} (h : Tr (enc := enc) (w := w) (spare := spare) (held := held) fuel t cs d ps) :
    ∃ (n : Nat) (xs : List (DataW H)), fuel = n + 1 ∧ d = .agg xs ∧ xs.length = l.length ∧ (∀ (i : Nat) (x : DataW H) (q : Nat × TypeId), xs[i]? = some x → l[i]? = some q → ∃ cs ps, Tr (enc := enc) (w := w) (spare := spare) (held := held) n q.2 cs x ps) ∧
      ∀ (k : Nat) (av : List AV), avParts Tryz.prog (avT Tryz.prog k) 0 l xs = some av → av.length = Tryz.prog.cellsOf t → avT Tryz.prog (k + 1) t d = some av := by
  obtain ⟨fs, hu, rfl⟩ := hf
  obtain ⟨ys, n, rfl, hx, _, hlen, hall⟩ := DataW.trod_struct hu h
  simp only [Prod.mk.injEq] at hx
  obtain ⟨rfl, _⟩ := hx
  refine ⟨n, ys.map (·.1), rfl, rfl, by simp [hlen], fun i x q hi hq => ?_, fun k av ha hl => ?_⟩
  · rw [List.getElem?_map] at hi hq
    obtain ⟨y, hy, rfl⟩ := Option.map_eq_some_iff.1 hi
    obtain ⟨f, hf, rfl⟩ := Option.map_eq_some_iff.1 hq
    have := hall i f (by simpa using hf)
    rw [hy] at this
    exact ⟨_, y.2, this⟩
  · unfold avT
    rw [hu]
    simp only [ha, hl, if_true]
end
end Go.Proofs.YtdnhhdplcminlaaGreatDoor.AI
