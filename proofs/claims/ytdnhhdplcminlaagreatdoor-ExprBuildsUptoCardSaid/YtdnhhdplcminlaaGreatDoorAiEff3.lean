/- append. -/
import Derived.Test.YtdnhhdplcminlaaGreatDoorAiEff2
set_option maxHeartbeats 400000
set_option linter.unusedVariables false
set_option linter.unusedSimpArgs false
set_option linter.unusedSectionVars false
namespace Go.Proofs.YtdnhhdplcminlaaGreatDoor.AI
variable [Nu]

section
variable {P : Program} {G : Cfg} {E : Nat → Nat → Prop} {f : FuncId} {L : Lay} {s : St} {a : Act} {w : World}

theorem RepC.nth {X : RC} {cs : List AV} {vs : List Value} (h : RepC X cs vs) : ∀ (j : Nat) (u : Value), vs[j]? = some u → u.oneCell' = true := fun j u hu => h.2.1 u (List.mem_of_getElem? hu)

/-- The cells of a slice that is read, as a list. -/
theorem cells_list {ob : Key → Option AObj} {len : Nat} (H : HS P G E L ob len w) {cs : List AV} {ad : Addr} {vs : Nat → Value} (hS : ∀ j, j < cs.length → (rc E L ob len w).S (ad.add j) (vs j)) (hR : ∀ j (hj : j < cs.length), Rep (rc E L ob len w) cs[j] (vs j)) :
    ∃ news : List Value, RepC (rc E L ob len w) cs news ∧ (∀ j u, news[j]? = some u → w.cell? (ad.add j) = some u) := by
  refine ⟨(List.range cs.length).map vs, ⟨by simp, ?_, ?_⟩, ?_⟩
  · intro v hv
    obtain ⟨j, hj, rfl⟩ := List.mem_map.1 hv
    exact (hS j (by simpa using hj)).2.2
  · intro j hj
    simpa [List.getD_eq_getElem?_getD, hj] using hR j hj
  · intro j u hu
    simp only [List.getElem?_map] at hu
    obtain ⟨i, hi, rfl⟩ := Option.map_eq_some_iff.1 hu
    obtain ⟨hlt, he⟩ := List.getElem?_eq_some_iff.1 hi
    simp only [List.length_range] at hlt
    simp only [List.getElem_range] at he
    subst he
    exact (hS _ hlt).1

theorem src_ok (H : HS P G E L (obOf s.env s.heap) s.heap.length w) {x : AV} {m : Nat} {ys : List AV} {d : Value} (h : srcCells s.heap x = some (m, ys)) (hx : Rep (rc E L (obOf s.env s.heap) s.heap.length w) x d) :
    (d = .slice none 0 0 ∧ m = 0 ∧ ys = []) ∨ ∃ (ad : Addr) (cap : Nat) (news : List Value), d = .slice (some ad) m cap ∧ RepC (rc E L (obOf s.env s.heap) s.heap.length w) ys news ∧ ∀ j u, news[j]? = some u → w.cell? (ad.add j) = some u := by
  unfold srcCells at h
  split at h
  · cases h; cases hx; exact .inl ⟨rfl, rfl, rfl⟩
  · cases h
    cases hx
    exact .inr ⟨_, _, [], rfl, RepC.nil _, fun j u hu => by simp at hu⟩
  · cases h
    rcases hx.sl_inv with ⟨ad, cap, vs, rfl, _, _, _, hS, hR⟩ | ⟨rfl, rfl, rfl⟩
    · obtain ⟨news, h1, h2⟩ := cells_list H hS hR
      exact .inr ⟨ad, cap, news, rfl, h1, h2⟩
    · exact .inl ⟨rfl, rfl, rfl⟩
  · cases h
    rcases hx.tk_inv with ⟨ad, cap, vs, _, _, _, rfl, _, _, _, _, _, hS, hR, _⟩ | ⟨rfl, rfl, rfl⟩
    · obtain ⟨news, h1, h2⟩ := cells_list H hS hR
      exact .inr ⟨ad, cap, news, rfl, h1, h2⟩
    · exact .inl ⟨rfl, rfl, rfl⟩
  · rename_i id off n c
    split at h
    · rename_i hc0
      cases h
      rcases hx.ms_inv with ⟨ad, cap, rfl, _, _, _, _, ha⟩ | ⟨rfl, _, rfl⟩
      · exact .inr ⟨ad, cap, [], rfl, RepC.nil _, fun j u hu => by simp at hu⟩
      · exact .inl ⟨rfl, rfl, rfl⟩
    rename_i hc0
    split at h <;> try cases h
    rename_i cs hid
    obtain ⟨ds, hseg, he⟩ := Option.map_eq_some_iff.1 h
    cases he
    rcases hx.ms_inv with ⟨ad, cap, rfl, _, _, _, _, ha⟩ | ⟨_, h0, _⟩
    case inr => exact absurd h0 hc0
    have ho : obOf s.env s.heap (.obj id) = some (.arr cs) := by simp [obOf, hid]
    obtain ⟨vs, h1, h2, h3⟩ := arr_read H ho hseg
    refine .inr ⟨ad, cap, vs, rfl, h2, fun j u hu => ?_⟩
    have hj : j < c := by
      have := (List.getElem?_eq_some_iff.1 hu).1
      rw [h2.1, h3] at this
      exact this
    rw [ha (by omega), show (rc E L (obOf s.env s.heap) s.heap.length w).loc (.obj id) = L.loc (.obj id) from rfl, h1 j hj]
    simp [List.getD_eq_getElem?_getD, hu]
  · cases h

theorem append_zero {t ty e : TypeId} {i : TypeInfo} (ht : P.underlying t = some (.slice e)) (hi : P.info? e = some i) (b : Option Addr) (n cap : Nat) (hn : n ≤ cap) (b' : Option Addr) (cap' : Nat) :
    (Builtin.append_ #[t, t] ty #[.slice b n cap, .slice b' 0 cap']).run P w = .ok (.slice b n cap) w := by
  have hf : (Builtin.firstCells i.size 0 (.slice b' 0 cap')).run P w = .ok #[] w := by
    cases b' <;> simp [Builtin.firstCells, loadCells, loadCellsFrom]
  cases b <;> simp [Builtin.append_, run_underlying ht, sizeOf, typeInfo, hi, Builtin.lenOf, hn, hf, storeCells]

/-- What a function of Go's library comes to: a value, and what has been made. -/
def EffB (P : Program) (G : Cfg) (E : Nat → Nat → Prop) (L : Lay) (s : St) (w : World) (r : Sem Value) : Eff → Prop
  | .val v => ∃ u, r.run P w = .ok u w ∧ Rep (rc E L (obOf s.env s.heap) s.heap.length w) v u
  | .heap h' v => ∃ u w' L', r.run P w = .ok u w' ∧ HS P G E L' (obOf s.env h') h'.length w' ∧ Pg E L (obOf s.env s.heap) s.heap.length w L' (obOf s.env h') h'.length w' ∧
      (∀ b, L'.loc (.box b) = L.loc (.box b)) ∧ Rep (rc E L' (obOf s.env h') h'.length w') v u
  | .wbox _ _ => False

theorem done_effB (F : FS P G E f L s a w) {o : Oper} (hd : DstOk G f o a) {r : Sem Value} {x : Eff} (he : execOp a.eval o = (do pure (.value (← r)))) (h : EffB P G E L s w r x) : Done P G E f L s o a w x := by
  cases x with
  | val v =>
    obtain ⟨u, hr, hv⟩ := h
    exact done_val F hd (by rw [he]; simp [hr]) (.inl hv)
  | heap h' v =>
    obtain ⟨u, w', L', hr, H, hp, hl, hv⟩ := h
    exact done_heap F hd (by rw [he]; simp [hr]) (.inl rfl) H hp (fun b _ _ => hl b) (.inl hv)
  | wbox _ _ => exact h.elim

/-- A slice with a token over the token's own block. -/
theorem tk_of {ob : Key → Option AObj} {len id n cap : Nat} {e : TypeId} {cs : List AV} {us : List Value} {rest : Array Value} {g : Nat} (H : HS P G E L ob len w) (hid : ob (.obj id) = some (.tok e n cs.length)) (hg : L.loc (.obj id) = g) (hc : L.cap id = cap)
    (hblk : w.heap[g]? = some (.cells (us.toArray ++ rest) e (0, 0))) (hr : RepC (rc E L ob len w) cs us) (hn : n ≤ cap) (hm : cap ≤ maxLen) (hpos : 0 < n) : Rep (rc E L ob len w) (.tk id n cs) (.slice (some ⟨g, 0, none⟩) n cap) := by
  subst hg hc
  refine .tk id n cs _ _ (fun j => us.getD j undef) e n cs.length hpos hn hm hid (Nat.le_refl _) (fun _ => ⟨rfl, rfl⟩) (fun j hj => ?_) hr.2.2
  have ha : (⟨L.loc (.obj id), 0, none⟩ : Addr).add j = ⟨L.loc (.obj id), j, none⟩ := by unfold Addr.add; split <;> simp_all
  have hlt : j < us.length := by rw [hr.1]; exact hj
  refine ⟨?_, ?_, ?_⟩
  · rw [ha]
    have : (us.toArray ++ rest)[j]? = some us[j] := by rw [Array.getElem?_append_left (by simpa using hlt)]; simp [hlt]
    simp only [World.cell?, hblk, this]
    simp [hlt]
  · rw [ha]
    rintro (h | ⟨k, o, hk, hl, hc⟩)
    · exact H.ne _ _ _ hid h
    · have := H.inj k (.obj id) _ _ hk hid hl
      subst this
      rw [hid] at hk
      cases hk
      exact absurd (hc e n cs.length rfl) (Nat.not_le.2 hj)
  · have : us.getD j undef = us[j] := by simp [hlt]
    rw [this]
    exact hr.2.1 _ (List.getElem_mem hlt)

/-- A row in a new block: told by a token, or as a row that is written. -/
theorem new_row (F : HS P G E L (obOf s.env s.heap) s.heap.length w) {r : Sem Value} {el : TypeId} {i : TypeInfo} (hi : P.info? el = some i) {n cap : Nat} {cs : List AV} {us : List Value} {rest : Array Value} {w1 : World} (hw1 : Fr (fun _ => False) w w1) (hh : w1.heap.size = w.heap.size)
    (hr : RepC (rc E L (obOf s.env s.heap) s.heap.length w) cs us) (hlen : cs.length = n * i.size) (hn : n ≤ cap) (hcap : cap ≤ maxLen) (hrest : us.length + rest.size = cap * i.size)
    (hrun : r.run P w = .ok (.slice (some ⟨w.heap.size, 0, none⟩) n cap) (w1.alloc (.cells (us.toArray ++ rest) el))) (rows : Bool) (hpos : rows = true ∨ 0 < n) : EffB P G E L s w r (grown rows s.heap el n cs) := by
  have hfr : Fr (fun _ => False) w (w1.alloc (.cells (us.toArray ++ rest) el)) := hw1.trans (Fr.alloc (fun _ => False) w1 _) (fun _ _ h => h)
  have hnone : obOf s.env s.heap (.obj s.heap.length) = none := by simp [obOf]
  have hblk : (w1.alloc (.cells (us.toArray ++ rest) el)).heap[w.heap.size]? = some (.cells (us.toArray ++ rest) el (0, 0)) := by rw [← hh]; exact alloc_heap_at w1 _
  have hul : us.length = cs.length := hr.1
  unfold grown
  cases rows with
  | true =>
    obtain ⟨ob1, ob2⟩ := obOf_push s.env s.heap (.arr cs)
    obtain ⟨H, hp⟩ := F.fresh (len' := (s.heap ++ [some (AObj.arr cs)]).length) (w' := w1.alloc (.cells (us.toArray ++ rest) el)) (.obj s.heap.length) (.arr cs) w.heap.size false 0 ob1 ob2 (by simp) (fun id h => by cases h; simp) hnone (Nat.le_refl _) (by simp [hh]) hfr
      (fun hle => ⟨fun id h => by cases h; simp [rc, Lay.at], us.toArray ++ rest, el, by simpa [rc, Lay.at] using hblk, by
        have := hr.mono hle
        rw [show (us.toArray ++ rest).toList.take cs.length = us by simp [← hul]]
        exact this⟩)
    refine ⟨_, _, _, hrun, H, hp, fun b => by simp [Lay.at], ?_⟩
    refine .ms s.heap.length 0 n cs.length _ cap hn hcap (fun _ => by simp [rc]) (fun _ => by simp [rc, Lay.at]) (fun _ => ?_)
    simp [rc, Lay.at, Addr.add]
  | false =>
    obtain ⟨ob1, ob2⟩ := obOf_push s.env s.heap (.tok el n cs.length)
    obtain ⟨H, hp⟩ := F.fresh (len' := (s.heap ++ [some (AObj.tok el n cs.length)]).length) (w' := w1.alloc (.cells (us.toArray ++ rest) el)) (.obj s.heap.length) (.tok el n cs.length) w.heap.size true cap ob1 ob2 (by simp) (fun id h => by cases h; simp) hnone (Nat.le_refl _) (by simp [hh]) hfr
      (fun hle => ⟨s.heap.length, us.toArray ++ rest, i.size, rfl, by simp [rc, Lay.at], by simp [hi], by simpa [rc, Lay.at] using hblk, by simpa [rc, Lay.at] using hrest, by simpa [rc, Lay.at] using hn, by simpa [rc, Lay.at] using hcap, hlen⟩)
    exact ⟨_, _, _, hrun, H, hp, fun b => by simp [Lay.at], tk_of H ob2 (by simp [Lay.at]) (by simp [Lay.at]) hblk (hr.mono hp.le) hn hcap (hpos.resolve_left (by simp))⟩

theorem zero_cells {e : TypeId} {i : TypeInfo} {z : AV} (hi : P.info? e = some i) (hz : zeroOf P e = some z) (hsol : solid z = true) (hlz : (cellsOf z).length = i.size) : ∃ zv, i.zero = some zv ∧ zv.cells.size = i.size := by
  simp only [zeroOf, hi, Option.bind_some] at hz
  obtain ⟨zv, h1, h2⟩ := Option.map_eq_some_iff.1 hz
  refine ⟨zv, h1, ?_⟩
  subst h2
  have h := cells_ok (rep_ofVal (⟨fun _ _ => False, fun _ => 0, fun _ => false, fun _ => 0, 0, fun _ => none⟩ : RC) zv) hsol
  have := h.1
  rw [hlz] at this
  simpa using this

theorem append_ok (F : HS P G E L (obOf s.env s.heap) s.heap.length w) {rows : Bool} {ts : Array TypeId} (ty : TypeId) {sv xv : AV} {x : Eff} {c d : Value} (h : aAppend P rows ts s.heap sv xv = some x)
    (hs : Rep (rc E L (obOf s.env s.heap) s.heap.length w) sv c) (hx : Rep (rc E L (obOf s.env s.heap) s.heap.length w) xv d) : EffB P G E L s w (Builtin.append_ ts ty #[c, d]) x := by
  unfold aAppend at h
  split at h <;> try cases h
  rename_i t u hts
  obtain rfl : ts = #[t, u] := by cases ts; simpa using hts
  split at h <;> try cases h
  rename_i htu
  simp only [ne_eq, Decidable.not_not] at htu
  subst htu
  split at h <;> try cases h
  rename_i elem hu
  split at h <;> try cases h
  rename_i info z hi hz
  split at h <;> try cases h
  rename_i m ys hsrc
  split at h <;> try cases h
  rename_i hcond
  simp only [Bool.or_eq_true, decide_eq_true_eq, not_or, Bool.not_eq_true', Bool.not_eq_false, bne_iff_ne, ne_eq, Decidable.not_not] at hcond
  obtain ⟨⟨⟨⟨⟨hsz, hby⟩, hby2⟩, hys⟩, hsol⟩, hlz⟩ := hcond
  simp only [Nat.not_lt] at hby2
  obtain ⟨zv, hzv, hzs⟩ := zero_cells hi hz hsol hlz
  have hsrc' := src_ok F hsrc hx
  have hzero : ∀ (b : Option Addr) (n cap : Nat), n ≤ cap → m = 0 → (Builtin.append_ #[t, t] ty #[.slice b n cap, d]).run P w = .ok (.slice b n cap) w := by
    intro b n cap hn hm
    rcases hsrc' with ⟨rfl, _, _⟩ | ⟨ad, cap', news, rfl, _, _⟩
    · exact append_zero hu hi b n cap hn none 0
    · subst hm; exact append_zero hu hi b n cap hn _ cap'
  have hpos : m ≠ 0 → ∃ (ad : Addr) (cap : Nat) (news : List Value), d = .slice (some ad) m cap ∧ RepC (rc E L (obOf s.env s.heap) s.heap.length w) ys news ∧ ∀ j u, news[j]? = some u → w.cell? (ad.add j) = some u := by
    intro hm
    rcases hsrc' with ⟨_, h0, _⟩ | h
    · exact absurd h0 hm
    · exact h
  have hbytes : ∀ k, k ≤ maxN → k * info.bytes ≤ 140737488355328 := fun k hk => by
    have := Nat.mul_le_mul hk hby2
    simp only [maxN] at this
    omega
  have hzc : ∀ k, (Builtin.zeroCells zv.cells k).size = k * info.size := fun k => by rw [size_zeroCells, hzs]
  have hmx : ∀ k, k ≤ maxN → k ≤ maxLen := fun k hk => by simp only [maxN] at hk; simp only [maxLen]; omega
  have hdrew : Fr (fun _ => False) w w.drew := Fr.drew _ w
  split at h
  · -- nothing there yet
    cases hs
    split at h
    · rename_i hm
      cases h
      exact ⟨_, hzero none 0 0 (Nat.le_refl _) hm, .nilsl⟩
    · rename_i hm
      split at h <;> try cases h
      rename_i hmax
      simp only [Nat.not_lt] at hmax
      obtain ⟨ad, cap, news, rfl, hn1, hn2⟩ := hpos hm
      have hl : news.length = m * info.size := by rw [hn1.1, hys]
      have hge := grownCap_ge w m 0 elem
      refine new_row F hi hdrew rfl hn1 hys hge (grownCap_le_maxLen w m 0 elem (hmx m hmax)) ?_ (run_append_nil (P := P) w t ty elem info zv hu hi hzv ad m cap news hl hn2 (by omega) (by simp only [maxN] at hmax; omega) (by have := hbytes m hmax; omega)) rows (.inr (by omega))
      rw [hl, hzc, ← Nat.add_mul]
      congr 1
      omega
  · -- a full slice
    rename_i full n cs
    rcases hs.sl_inv with ⟨b, cap0, vs, rfl, h1, h2, h3, h4, h5⟩ | ⟨rfl, rfl, rfl⟩
    case inr =>
      split at h
      · rename_i hm
        cases h
        exact ⟨_, hzero none 0 0 (Nat.le_refl _) hm, .slN _⟩
      · rename_i hm
        split at h <;> try cases h
        rename_i hc
        simp only [Bool.or_eq_true, decide_eq_true_eq, not_or, Bool.not_eq_true', Bool.not_eq_false, bne_iff_ne, ne_eq, Decidable.not_not, Nat.not_lt] at hc
        obtain ⟨⟨hfull, hmax⟩, hcs⟩ := hc
        simp only [Nat.zero_add] at hmax
        obtain ⟨ad, cap, news, rfl, hn1, hn2⟩ := hpos hm
        have hl : news.length = m * info.size := by rw [hn1.1, hys]
        have hge := grownCap_ge w m 0 elem
        simp only [List.nil_append, Nat.zero_add]
        refine new_row F hi hdrew rfl hn1 hys hge (grownCap_le_maxLen w m 0 elem (hmx m hmax)) ?_ (run_append_nil (P := P) w t ty elem info zv hu hi hzv ad m cap news hl hn2 (by omega) (by simp only [maxN] at hmax; omega) (by have := hbytes m hmax; omega)) rows (.inr (by omega))
        rw [hl, hzc, ← Nat.add_mul]
        congr 1
        omega
    split at h
    · rename_i hm
      cases h
      exact ⟨_, hzero (some b) n cap0 h1 hm, hs⟩
    · rename_i hm
      split at h <;> try cases h
      rename_i hc
      simp only [Bool.or_eq_true, decide_eq_true_eq, not_or, Bool.not_eq_true', Bool.not_eq_false, bne_iff_ne, ne_eq, Decidable.not_not, Nat.not_lt] at hc
      obtain ⟨⟨hfull, hmax⟩, hcs⟩ := hc
      have hcap := h3 hfull
      subst hcap
      obtain ⟨ad, cap, news, rfl, hn1, hn2⟩ := hpos hm
      obtain ⟨olds, ho1, ho2⟩ := cells_list F h4 h5
      have hl : news.length = m * info.size := by rw [hn1.1, hys]
      have hlo : olds.length = cap0 * info.size := by rw [ho1.1, hcs]
      have hge := grownCap_ge w (cap0 + m) cap0 elem
      have hrun := run_append_grow (P := P) w t ty elem info zv hu hi hzv b cap0 cap0 olds hlo ho2 ad m cap news hl hn2 (by omega) (by simp only [maxN] at hmax; omega) (growslice_fits (by omega) (hbytes _ hmax))
      rw [show olds.toArray ++ news.toArray = (olds ++ news).toArray by simp] at hrun
      refine new_row F hi hdrew rfl (RepC.app ho1 hn1) (by rw [List.length_append, hcs, hys, Nat.add_mul]) hge (grownCap_le_maxLen w _ _ elem (hmx _ hmax)) ?_ hrun rows (.inr (by omega))
      rw [List.length_append, hl, hlo, hzc, ← Nat.add_mul, ← Nat.add_mul]
      congr 1
      omega
  · -- a row with a token
    rename_i id n cs
    rcases hs.tk_inv with ⟨b, cap0, vs, e', m', k', rfl, h1, h2, h3, h4, h5, h6, h7, hpos'⟩ | ⟨rfl, rfl, rfl⟩
    case inr =>
      split at h
      · rename_i hm
        cases h
        exact ⟨_, hzero none 0 0 (Nat.le_refl _) hm, .tkN _⟩
      · rename_i hm
        rw [if_pos rfl] at h
        split at h <;> try cases h
        rename_i hmax
        simp only [Nat.not_lt] at hmax
        obtain ⟨ad, cap, news, rfl, hn1, hn2⟩ := hpos hm
        have hl : news.length = m * info.size := by rw [hn1.1, hys]
        have hge := grownCap_ge w m 0 elem
        refine new_row F hi hdrew rfl hn1 hys hge (grownCap_le_maxLen w m 0 elem (hmx m hmax)) ?_ (run_append_nil (P := P) w t ty elem info zv hu hi hzv ad m cap news hl hn2 (by omega) (by simp only [maxN] at hmax; omega) (by have := hbytes m hmax; omega)) rows (.inr (by omega))
        rw [hl, hzc, ← Nat.add_mul]
        congr 1
        omega
    split at h
    · rename_i hm
      cases h
      exact ⟨_, hzero (some b) n cap0 h1 hm, hs⟩
    · rename_i hm
      rw [if_neg (by omega)] at h
      split at h <;> try cases h
      rename_i hc
      simp only [Bool.or_eq_true, decide_eq_true_eq, not_or, bne_iff_ne, ne_eq, Decidable.not_not, Nat.not_lt] at hc
      obtain ⟨hmax, hcs⟩ := hc
      split at h <;> try cases h
      rename_i el k kk hid
      split at h <;> try cases h
      rename_i hkn
      obtain ⟨rfl, rfl⟩ := hkn
      have hob : obOf s.env s.heap (.obj id) = some (.tok el k kk) := by simp [obOf, hid]
      have hob' : obOf s.env s.heap (.obj id) = some (.tok e' m' k') := h3
      rw [hob] at hob'
      obtain ⟨rfl, rfl, rfl⟩ : el = e' ∧ k = m' ∧ kk = k' := by cases hob'; exact ⟨rfl, rfl, rfl⟩
      obtain ⟨hb, hcap⟩ := h5 rfl
      replace hb : b = ⟨L.loc (.obj id), 0, none⟩ := hb
      replace hcap : cap0 = L.cap id := hcap
      subst hb hcap
      obtain ⟨id', cur, sz, hk0, hit, hsz', hblk, hcsz, hnc, hcm, hcc⟩ := F.objs _ _ hob
      cases hk0
      replace hit : L.isTok id = true := hit
      replace hblk : w.heap[L.loc (.obj id)]? = some (.cells cur el (0, 0)) := hblk
      replace hcsz : cur.size = L.cap id * sz := hcsz
      replace hnc : k ≤ L.cap id := hnc
      replace hcm : L.cap id ≤ maxLen := hcm
      simp only [hi, Option.map_some, Option.some.injEq] at hsz'
      subst hsz'
      obtain ⟨ad, cap, news, rfl, hn1, hn2⟩ := hpos hm
      obtain ⟨olds, ho1, ho2⟩ := cells_list F h6 h7
      have hl : news.length = m * info.size := by rw [hn1.1, hys]
      have hlo : olds.length = k * info.size := by rw [ho1.1, hcs]
      have hidl : id < s.heap.length := F.idlt id _ hob
      obtain ⟨ob1, ob2⟩ := obOf_set s.env s.heap id (.tok el (k + m) (cs.length + ys.length)) hidl
      have hlen' : (s.heap.set id (some (.tok el (k + m) (cs.length + ys.length)))).length = s.heap.length := by simp
      have hlc : (cs ++ ys).length = (k + m) * info.size := by rw [List.length_append, hcs, hys, Nat.add_mul]
      by_cases hroom : k + m ≤ L.cap id
      · have hfit : k * info.size + news.length ≤ cur.size := by rw [hl, hcsz, ← Nat.add_mul]; exact Nat.mul_le_mul_right _ hroom
        have hrun := run_append_room (P := P) w t ty el info hu hi _ k (L.cap id) cur hblk ad m cap news hl hn2 hn1.2.1 hroom hfit
        have holds : cur.toList.take (k * info.size) = olds := by
          apply List.ext_getElem?
          intro j
          by_cases hj : j < k * info.size
          · have hj' : j < olds.length := by omega
            have := ho2 j olds[j] (List.getElem?_eq_getElem hj')
            rw [show (⟨L.loc (.obj id), 0, none⟩ : Addr).add j = ⟨L.loc (.obj id), j, none⟩ by unfold Addr.add; split <;> simp_all] at this
            simp only [World.cell?, hblk] at this
            rw [List.getElem?_take_of_lt hj, List.getElem?_eq_getElem hj']
            simpa using this
          · rw [List.getElem?_eq_none (by simp; omega), List.getElem?_eq_none (by omega)]
        generalize hcur : (cur.toList.take (k * info.size) ++ news ++ cur.toList.drop (k * info.size + news.length)).toArray = cur' at hrun
        have hcur' : cur' = (olds ++ news).toArray ++ (cur.toList.drop (k * info.size + news.length)).toArray := by rw [← hcur, holds]; simp
        have hcursz : cur'.size = cur.size := by
          rw [← hcur]
          simp only [List.size_toArray, List.length_append, List.length_take, List.length_drop, Array.length_toList]
          omega
        have hblk' := setRow_heap w (L.loc (.obj id)) cur cur' el (0, 0) hblk
        have hfr : Fr (fun g => (∃ o, obOf s.env s.heap (.obj id) = some o) ∧ g = L.loc (.obj id)) w (w.setRow (L.loc (.obj id)) cur') :=
          ⟨rfl, rfl, rfl, by simp [World.setRow], fun g _ hg => setRow_other w _ g cur' (fun he => hg ⟨⟨_, hob⟩, he⟩)⟩
        obtain ⟨H, hle⟩ := F.step (L' := L) (ob' := obOf s.env (s.heap.set id (some (.tok el (k + m) (cs.length + ys.length))))) (len' := s.heap.length) (w' := w.setRow (L.loc (.obj id)) cur') (.obj id) (.tok el (k + m) (cs.length + ys.length)) ob1 ob2 (Nat.le_refl _)
          (fun i h => by cases h; exact hidl) (fun h => by rw [hob] at h; cases h) (fun _ _ => rfl) (fun _ _ => rfl) (fun _ _ => rfl)
          (fun e n c h => by
            rw [hob] at h
            cases h
            refine ⟨fun j v hj hv => ?_, k + m, _, rfl, by omega, by omega, fun h => by omega⟩
            rw [show (w.setRow (L.loc (.obj id)) cur').cell? ⟨L.loc (.obj id), j, none⟩ = cur'[j]? by simp [World.cell?, hblk'], hcur']
            have hj' : j < olds.length := by omega
            rw [Array.getElem?_append_left (by simp; omega)]
            have h8 := ho2 j olds[j] (List.getElem?_eq_getElem hj')
            rw [show (⟨L.loc (.obj id), 0, none⟩ : Addr).add j = ⟨L.loc (.obj id), j, none⟩ by unfold Addr.add; split <;> simp_all] at h8
            have h9 : v = olds[j] := Option.some.inj (hv.symm.trans h8)
            rw [h9]
            simp [List.getElem?_append_left hj'])
          (fun o h hn => by rw [hob] at h; cases h; exact absurd rfl (hn _ _ _)) (.inl ⟨_, hob, rfl⟩) (by simpa [World.setRow] using F.lt _ _ hob) hfr
          (fun hle => ⟨id, cur', info.size, rfl, hit, by simp [hi], hblk', by rw [hcursz]; exact hcsz, hroom, hcm, by rw [← hlc]; simp⟩)
        have hpg : Pg E L (obOf s.env s.heap) s.heap.length w L (obOf s.env (s.heap.set id (some (.tok el (k + m) (cs.length + ys.length))))) s.heap.length (w.setRow (L.loc (.obj id)) cur') :=
          ⟨hle, hfr.mono (fun g hg => ⟨_, _, hg.1.choose_spec, hg.2⟩), own_step ob1 (fun _ _ => rfl) (.inl ⟨_, hob, rfl⟩)⟩
        refine ⟨_, _, L, hrun, by rw [hlen']; exact H, by rw [hlen']; exact hpg, fun _ => rfl, ?_⟩
        rw [hlen']
        exact tk_of H (by rw [List.length_append]; exact ob2) rfl rfl (by rw [← hcur']; exact hblk') ((RepC.app ho1 hn1).mono hle) hroom hcm (by omega)
      · have hge := grownCap_ge w (k + m) (L.cap id) el
        have hcapM := grownCap_le_maxLen w (k + m) (L.cap id) el (hmx _ hmax)
        have hrun := run_append_grow (P := P) w t ty el info zv hu hi hzv ⟨L.loc (.obj id), 0, none⟩ k (L.cap id) olds hlo ho2 ad m cap news hl hn2 (by omega) (by simp only [maxN] at hmax; omega) (growslice_fits (by omega) (hbytes _ hmax))
        rw [show olds.toArray ++ news.toArray = (olds ++ news).toArray by simp] at hrun
        generalize hrs : Builtin.zeroCells zv.cells (grownCap w (k + m) (L.cap id) el - (k + m)) = rest at hrun
        have hrsz : rest.size = (grownCap w (k + m) (L.cap id) el - (k + m)) * info.size := by rw [← hrs, hzc]
        generalize grownCap w (k + m) (L.cap id) el = nc at hrun hge hcapM hrsz
        have hfr : Fr (fun _ => False) w (w.drew.alloc (.cells ((olds ++ news).toArray ++ rest) el)) := hdrew.trans (Fr.alloc (fun _ => False) w.drew _) (fun _ _ h => h)
        have hblk' : (w.drew.alloc (.cells ((olds ++ news).toArray ++ rest) el)).heap[w.heap.size]? = some (.cells ((olds ++ news).toArray ++ rest) el (0, 0)) := alloc_heap_at w.drew _
        have hloc : ∀ k0, k0 ≠ Key.obj id → (L.at (.obj id) w.heap.size true nc).loc k0 = L.loc k0 := fun k0 hk0 => by simp [Lay.at, hk0]
        have hpl : (∃ o, obOf s.env s.heap (.obj id) = some o ∧ (L.at (.obj id) w.heap.size true nc).loc (.obj id) = L.loc (.obj id)) ∨ w.heap.size ≤ (L.at (.obj id) w.heap.size true nc).loc (.obj id) := .inr (by simp [Lay.at])
        obtain ⟨H, hle⟩ := F.step (L' := L.at (.obj id) w.heap.size true nc) (ob' := obOf s.env (s.heap.set id (some (.tok el (k + m) (cs.length + ys.length))))) (len' := s.heap.length) (w' := w.drew.alloc (.cells ((olds ++ news).toArray ++ rest) el)) (.obj id) (.tok el (k + m) (cs.length + ys.length)) ob1 ob2 (Nat.le_refl _)
          (fun i h => by cases h; exact hidl) (fun h => by rw [hob] at h; cases h) hloc (fun i hi' => by show (if Key.obj id = Key.obj i then nc else L.cap i) = L.cap i; rw [if_neg (Ne.symm hi')])
          (fun i _ => by
            simp only [Lay.at]
            split
            · rename_i he; cases he; exact hit.symm
            · rfl)
          (fun e n c h => by
            rw [hob] at h
            cases h
            refine ⟨fun j v hj hv => ?_, k + m, _, rfl, by omega, by omega, fun h => by omega⟩
            rw [cell_block (hfr.block _ (F.lt _ _ hob) (by simp))]
            exact hv)
          (fun o h hn => by rw [hob] at h; cases h; exact absurd rfl (hn _ _ _)) hpl (by simp only [Lay.at, if_true]; exact (Array.getElem?_eq_some_iff.1 hblk').1) (hfr.mono (fun _ h => h.elim))
          (fun hle => ⟨id, (olds ++ news).toArray ++ rest, info.size, rfl, by simp [rc, Lay.at], by simp [hi], by simpa [rc, Lay.at] using hblk', by
            simp only [Array.size_append, List.size_toArray, List.length_append, hlo, hl, hrsz, rc, Lay.at, if_true]
            rw [← Nat.add_mul, ← Nat.add_mul]
            congr 1
            omega, by simpa [rc, Lay.at] using hge, by simpa [rc, Lay.at] using hcapM, by rw [← hlc]; simp⟩)
        have hpg : Pg E L (obOf s.env s.heap) s.heap.length w (L.at (.obj id) w.heap.size true nc) (obOf s.env (s.heap.set id (some (.tok el (k + m) (cs.length + ys.length))))) s.heap.length (w.drew.alloc (.cells ((olds ++ news).toArray ++ rest) el)) :=
          ⟨hle, hfr.mono (fun _ h => h.elim), own_step ob1 hloc hpl⟩
        refine ⟨_, _, _, hrun, by rw [hlen']; exact H, by rw [hlen']; exact hpg, fun _ => by simp [Lay.at], ?_⟩
        rw [hlen']
        exact tk_of H (by rw [List.length_append]; exact ob2) (by simp [Lay.at]) (by simp [Lay.at]) hblk' ((RepC.app ho1 hn1).mono hle) hge hcapM (by omega)
  · cases h
end
end Go.Proofs.YtdnhhdplcminlaaGreatDoor.AI
