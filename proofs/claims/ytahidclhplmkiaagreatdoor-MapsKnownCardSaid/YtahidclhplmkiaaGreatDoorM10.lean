/- slices.Insert of one member inside a row of the call's own. -/
import Derived.Shelf.Spec.SlicesInsertGrow
import Derived.Deep.MidRow
import Derived.Test.YtahidclhplmkiaaGreatDoorM9
import Derived.Test.YtahidclhplmkiaaGreatDoorM4
namespace Go.Proofs.YtahidclhplmkiaaGreatDoor
open Go.RowKit
set_option linter.unusedVariables false
set_option linter.unusedSimpArgs false

/-- A list with a value put in. -/
def insL (l : List Value) (i : Nat) (x : Value) : List Value := l.take i ++ x :: l.drop i
theorem insL_len {l : List Value} {i : Nat} (x : Value) (h : i ≤ l.length) : (insL l i x).length = l.length + 1 := by
  simp only [insL, List.length_append, List.length_take, List.length_cons, List.length_drop]; omega
theorem insL_get {l : List Value} {i : Nat} (x : Value) (h : i ≤ l.length) (j : Nat) : (insL l i x)[j]? = if j < i then l[j]? else if j = i then some x else l[j - 1]? := by
  unfold insL
  by_cases h1 : j < i
  · rw [if_pos h1, List.getElem?_append_left (by simp; omega), List.getElem?_take_of_lt h1]
  · rw [if_neg h1, List.getElem?_append_right (by simp; omega), List.length_take, Nat.min_eq_left h]
    by_cases h2 : j = i
    · subst h2; simp
    · rw [if_neg h2, show j - i = (j - i - 1) + 1 by omega, List.getElem?_cons_succ, List.getElem?_drop, show i + (j - i - 1) = j - 1 by omega]
theorem rdM_at {W : World} {L : List Value} {g n c : Nat} (hn : L.length = n) (hlt : g < W.heap.size) (hc : n ≤ c ∧ c ≤ maxLen) (h : ∀ j, j < n → W.cell? ⟨g, j, none⟩ = L[j]?) : RdM W L (.slice (some ⟨g, 0, none⟩) n c) := by
  subst hn
  refine ⟨some ⟨g, 0, none⟩, c, by simp, ⟨fun e => (by cases e), by simpa using hc.1, hc.2⟩, fun _ => ⟨g, 0, rfl, hlt, fun j hj i hi => ?_⟩⟩
  obtain rfl : i = 0 := by omega
  have hj' : j < L.length := by simpa using hj
  rw [show 0 + j * 1 + 0 = j by omega, h j hj', List.getElem?_eq_getElem hj']
  simp [List.getD_eq_getElem?_getD, List.getElem?_map, List.getElem?_eq_getElem hj']
theorem ins_read_a {W : World} {l : List Value} {g m i : Nat} (x : Value) (hm : l.length = m) (hi : i < m) (h : ∀ j, j < i → W.cell? ⟨g, j, none⟩ = l[j]?) (hs : ∀ j, j < m + 1 → (W.cell? ⟨g, j, none⟩).isSome = true) :
    ∀ j, j < m + 1 → ((W.setCells g (i + 1) (l.drop i)).setCells g i [x]).cell? ⟨g, j, none⟩ = (insL l i x)[j]? := by
  intro j hj
  have hdl : (l.drop i).length = m - i := by rw [List.length_drop, hm]
  rw [insL_get x (by omega)]
  by_cases h1 : j < i
  · rw [if_pos h1, World.cell?_setCells_out _ _ _ _ _ (fun _ _ => .inl (by simpa using h1)), World.cell?_setCells_out _ _ _ _ _ (fun _ _ => .inl (by show j < i + 1; omega))]
    exact h j h1
  · rw [if_neg h1]
    by_cases h2 : j = i
    · subst h2
      rw [if_pos rfl]
      have := World.cell?_setCells_in g [x] j (W.setCells g (j + 1) (l.drop j)) (fun q hq => by
        obtain rfl : q = 0 := by simp at hq; omega
        exact World.isSome_setCells _ _ _ _ _ (hs _ (by omega))) 0 (by simp)
      simpa using this
    · rw [if_neg h2, World.cell?_setCells_out _ _ _ _ _ (fun _ _ => .inr (by show i + [x].length ≤ j; simp; omega))]
      have := World.cell?_setCells_in g (l.drop i) (i + 1) W (fun q hq => hs _ (by omega)) (j - (i + 1)) (by omega)
      rw [show i + 1 + (j - (i + 1)) = j by omega] at this
      rw [this, List.getElem_drop, List.getElem?_eq_getElem (by omega)]
      congr 2
      omega
theorem ins_read_b {W : World} {l : List Value} {g m i : Nat} (x : Value) (hm : l.length = m) (hi : i < m) (h : ∀ j, j < i → W.cell? ⟨g, j, none⟩ = l[j]?) (hs : ∀ j, j < m + 1 → (W.cell? ⟨g, j, none⟩).isSome = true) :
    ∀ j, j < m + 1 → ((W.setCells g i [x]).setCells g (i + 1) (l.drop i)).cell? ⟨g, j, none⟩ = (insL l i x)[j]? := by
  intro j hj
  have hdl : (l.drop i).length = m - i := by rw [List.length_drop, hm]
  rw [insL_get x (by omega)]
  by_cases h1 : j < i
  · rw [if_pos h1, World.cell?_setCells_out _ _ _ _ _ (fun _ _ => .inl (by show j < i + 1; omega)), World.cell?_setCells_out _ _ _ _ _ (fun _ _ => .inl (by simpa using h1))]
    exact h j h1
  · rw [if_neg h1]
    by_cases h2 : j = i
    · subst h2
      rw [if_pos rfl, World.cell?_setCells_out _ _ _ _ _ (fun _ _ => .inl (by show j < j + 1; omega))]
      have := World.cell?_setCells_in g [x] j W (fun q hq => by
        obtain rfl : q = 0 := by simp at hq; omega
        exact hs _ (by omega)) 0 (by simp)
      simpa using this
    · rw [if_neg h2]
      have := World.cell?_setCells_in g (l.drop i) (i + 1) (W.setCells g i [x]) (fun q hq => World.isSome_setCells _ _ _ _ _ (hs _ (by omega))) (j - (i + 1)) (by omega)
      rw [show i + 1 + (j - (i + 1)) = j by omega] at this
      rw [this, List.getElem_drop, List.getElem?_eq_getElem (by omega)]
      congr 2
      omega
/-- What an insertion leaves. -/
def InmP (base : Nat) (L : List Value) (n : Nat) (w : World) (e : Ending) (w' : World) : Prop := ∃ g c, base ≤ g ∧ e = .returned (.slice (some ⟨g, 0, none⟩) n c) ∧ RdM w' L (.slice (some ⟨g, 0, none⟩) n c) ∧ Below base w w'
set_option maxRecDepth 100000 in
set_option maxHeartbeats 4000000 in
/-- There is room. -/
theorem insRoom_any (l : List Value) (x : Value) (g m c i X base : Nat) (w : World) (h : OwnM w base (.slice (some ⟨g, 0, none⟩) m c) l) (hm : l.length = m) (hi : i < m) (hx : w.heap[X]? = some (.cells #[x] 22)) (hXg : X ≠ g) (h1 : ∀ p, p ∈ l → p.oneCell' = true) (h1x : x.oneCell' = true) (hn : m ≤ 900000) (hroom : m + 1 ≤ c) :
    Calls Tryz.prog 35 #[.slice (some ⟨g, 0, none⟩) m c, .int .i64 (i : Int), .slice (some ⟨X, 0, none⟩) 1 1] w (InmP base (insL l i x) (m + 1) w) := by
  have mixed : Tryz.prog.follows .mixedOrders = true := by kernel_rfl
  obtain ⟨i0, hi0, hz0, hz1, hz2⟩ := info_parts info_qI
  have h' : w.ownsRow base 22 1 (.slice (some ⟨g, 0, none⟩) m c) m l := by unfold OwnM at h; rw [hm] at h; exact h
  have hg := World.ownsRow.lt h' g rfl
  obtain ⟨cur, hcur, hcs⟩ : ∃ cur, w.heap[g]? = some (.cells cur 22 (0, 0)) ∧ cur.size = c ∧ c ≤ maxLen := by
    rcases h'.2 with ⟨e, _⟩ | ⟨g', cap, cur, e, _, h2, _, h4, h5, _⟩
    · cases e
    · cases e
      exact ⟨cur, h2, by simpa using h5, h4⟩
  have hc2 := hcs.2
  unfold maxLen at hc2
  have hcell : ∀ k, k < c → (w.cell? ⟨g, k, none⟩).isSome = true := fun k hk => by
    rw [cell_of_row w g k _ _ _ hcur, Array.getElem?_eq_getElem (by omega)]; rfl
  have hfz : ∀ k, w.frozen? ⟨g, k, none⟩ = false := fun k => h'.frozenAt k
  have hl : ∀ j, j < m → w.cell? ⟨g, j, none⟩ = l[j]? := fun j hj => h'.cellAt j (by omega)
  have hsz : (Tryz.prog.info? 22).map (·.size) = some 1 := by rw [hi0]; simp [hz1]
  have hov : ∀ lb cb, (callFunc 50 #[.slice (some ⟨X, 0, none⟩) 1 1, .slice (some ⟨g, i + 1, none⟩) lb cb]).run Tryz.prog w = .ok (.value (.bool false)) w := fun lb cb => by
    rw [run_callFunc_extern Tryz.func50 (by kernel_rfl) (by kernel_rfl) (by kernel_rfl) (e := Extern.SlicesOverlaps.overlaps #[23, 23] #[4]) (by kernel_rfl),
      Lib.run_overlaps_apart w 23 4 22 Tryz.underlying23 1 (by intro w; simp [Go.sizeOf, typeInfo, hi0, hz1]) ⟨X, 0, none⟩ ⟨g, i + 1, none⟩ 1 1 lb cb hXg 22 22 1 c (by simp [World.shape?, hx]) (by simp [World.shape?, hcur, hcs.1]) (by omega) (by simp [World.frozen?, hx]) (by simp [World.frozen?, hx])]
    rfl
  have hdl : (l.drop i).length = m - i := by rw [List.length_drop, hm]
  have hcp1 : ∀ ty dc sc, (Builtin.copy_ #[23, 23] ty #[.slice (some ⟨g, i + 1, none⟩) (m - i) dc, .slice (some ⟨g, i, none⟩) (m + 1 - i) sc]).run Tryz.prog w.drew = .ok (goInt (l.drop i).length) (w.drew.setCells g (i + 1) (l.drop i)) := fun ty dc sc =>
    run_copy_cells w.drew _ _ ty 22 g (i + 1) (m - i) dc ⟨g, i, none⟩ (m + 1 - i) sc (l.drop i) Tryz.underlying23 hsz (by rw [hdl]; simp only [Nat.min_def]; split <;> omega)
      (fun j v hj => by
        have hj2 : j < (l.drop i).length := (List.getElem?_eq_some_iff.1 hj).1
        rw [Addr.add_lit]
        show w.cell? _ = _
        rw [hl _ (by omega)]
        rwa [List.getElem?_drop] at hj)
      (fun j hj => hcell _ (by omega)) (fun j hj => hfz _) (fun v hv => h1 v (List.mem_of_mem_drop hv))
  obtain ⟨W1, hW1⟩ : ∃ W1, W1 = w.drew.setCells g (i + 1) (l.drop i) := ⟨_, rfl⟩
  have hcp2 : ∀ (W : World), (∀ x, W.cell? x = W1.cell? x) → (∀ x, W.frozen? x = W1.frozen? x) → ∀ ty dc, (Builtin.copy_ #[23, 23] ty #[.slice (some ⟨g, i, none⟩) (m + 1 - i) dc, .slice (some ⟨X, 0, none⟩) 1 1]).run Tryz.prog W = .ok (goInt [x].length) (W.setCells g i [x]) := fun W hWc hWf ty dc =>
    run_copy_cells W _ _ ty 22 g i (m + 1 - i) dc ⟨X, 0, none⟩ 1 1 [x] Tryz.underlying23 hsz (by simp only [List.length_singleton, Nat.min_def]; split <;> omega)
      (fun j v hj => by
        have hj2 : j < [x].length := (List.getElem?_eq_some_iff.1 hj).1
        obtain rfl : j = 0 := by simp at hj2; omega
        rw [Addr.add_lit, hWc, hW1, World.cell?_setCells_out g _ _ _ _ (fun h _ => absurd h hXg)]
        show w.cell? _ = _
        rw [cell_of_row w X _ _ _ _ hx]
        exact hj)
      (fun j hj => by rw [hWc, hW1]; exact World.isSome_setCells _ _ _ _ _ (hcell _ (by simp at hj; omega))) (fun j hj => by rw [hWf, hW1, World.frozen?_setCells]; exact hfz _) (fun v hv => by rw [List.mem_singleton.1 hv]; exact h1x)
  have HR := Lib.hid (rdM_at (W := W1.setCells g i [x]) (c := c) (show (insL l i x).length = m + 1 by rw [insL_len x (by omega), hm]) (by rw [size_cells, hW1, size_cells]; exact hg.2) ⟨hroom, hcs.2⟩ (by rw [hW1]; exact ins_read_a x hm hi (fun j hj => hl j (by omega)) (fun j hj => hcell _ (by omega))))
  have HB := Lib.hid (show Below base w (W1.setCells g i [x]) by
    rw [hW1]
    exact below_cells hg.1 _ _ (below_cells hg.1 _ _ (Below.refl base w).drew))
  have HG := Lib.hid hg.1
  have hw1 : IntKind.i64.wrap ((i : Int) + 1) = (i : Int) + 1 := by rw [IntKind.wrap_i64]; omega
  have htn : ((i : Int) + 1).toNat = i + 1 := by omega
  have hb1 : (0 : Int) ≤ (i : Int) + 1 := by omega
  have hb2 : ¬ (c = i + 1) := by omega
  have hb3 : (i : Int) ≤ (m : Int) := by omega
  have hb3' : (i : Int) ≤ (m : Int) + 1 := by omega
  have hb4 : ¬ (c = i) := by omega
  have hz2' : ¬ ((i : Int) = (m : Int)) := by omega
  rw [← hW1] at hcp1
  rw [hW1] at HR HB
  clear hdl hcell hfz hl hsz h h' hg hcur hcs h1 h1x hx hz0 hz2
  go_enter Tryz.func35, Tryz.ntmps35
  go_wp2_with (simp only [hov])
  go_region_law_o (refine step_copy_runI rfl _ _ 23 23 rfl _ _ (by simp [Act.eval, Act.put]) (by simp [Act.eval, Act.put]) (hcp1 _ _ _) ?_)
  go_wp2_with (at_builtin; refine wpList_copy_runI _ rfl _ _ 23 23 rfl _ _ rfl rfl (hcp2 _ (fun _ => rfl) (fun _ => rfl) _ _) ?_)
  go_ret
  exact ⟨g, c, HG.out, rfl, HR.out, HB.out⟩
end Go.Proofs.YtahidclhplmkiaaGreatDoor
/- slices.Insert of one member inside a row of the call's own that has no room. -/
namespace Go.Proofs.YtahidclhplmkiaaGreatDoor
open Go.RowKit
set_option linter.unusedVariables false
set_option linter.unusedSimpArgs false

set_option maxRecDepth 100000 in
set_option maxHeartbeats 4000000 in
/-- There is no room. -/
theorem insGrow_any (l : List Value) (x : Value) (g m i X base : Nat) (w : World) (h : OwnM w base (.slice (some ⟨g, 0, none⟩) m m) l) (hm : l.length = m) (hi : i < m) (hx : w.heap[X]? = some (.cells #[x] 22)) (hXg : X ≠ g) (h1 : ∀ p, p ∈ l → p.oneCell' = true) (h1x : x.oneCell' = true) (hn : m ≤ 900000) (hbase : base ≤ w.heap.size) :
    Calls Tryz.prog 35 #[.slice (some ⟨g, 0, none⟩) m m, .int .i64 (i : Int), .slice (some ⟨X, 0, none⟩) 1 1] w (InmP base (insL l i x) (m + 1) w) := by
  have mixed : Tryz.prog.follows .mixedOrders = true := by kernel_rfl
  obtain ⟨i0, hi0, hz0, hz1, hz2⟩ := info_parts info_qI
  have h' : w.ownsRow base 22 1 (.slice (some ⟨g, 0, none⟩) m m) m l := by unfold OwnM at h; rw [hm] at h; exact h
  have hg := World.ownsRow.lt h' g rfl
  have hbw : g < w.heap.size := hg.2
  have hvw : X < w.heap.size := lt_of_block hx
  have hl : ∀ j, j < m → w.cell? ⟨g, j, none⟩ = l[j]? := fun j hj => h'.cellAt j (by omega)
  have hsz : (Tryz.prog.info? 22).map (·.size) = some 1 := by rw [hi0]; simp [hz1]
  have hdl : (l.drop i).length = m - i := by rw [List.length_drop, hm]
  have hold : (Builtin.firstCells i0.size i (.slice (some ⟨g, 0, none⟩) i m)).run Tryz.prog w.drew = .ok (l.take i).toArray w.drew := by
    rw [hz1]
    exact run_firstCells_some w.drew 1 i ⟨g, 0, none⟩ i m (l.take i) (by rw [List.length_take]; omega) (fun j v hj => by
      rw [Addr.add_lit]
      rw [List.getElem?_take] at hj
      split at hj
      · show w.cell? _ = _
        rw [Nat.zero_add, hl j (by omega)]
        exact hj
      · cases hj)
  have hik : i + (m + 1 - i) = m + 1 := by omega
  have hkk : (m : Int) + 1 - (i : Int) = ((m + 1 - i : Nat) : Int) := by omega
  have hrz : ∀ ty, (Builtin.append_ #[23, 3] ty #[.slice (some ⟨g, 0, none⟩) i m, .int .i64 ((m : Int) + 1 - (i : Int))]).run Tryz.prog w =
      .ok (.slice (some ⟨w.heap.size, 0, none⟩) (m + 1) (grownCap w (m + 1) m 22)) (w.drew.alloc (.cells ((l.take i).toArray ++ Builtin.zeroCells (Value.slice none 0 0).cells (m + 1 - i) ++ Builtin.zeroCells (Value.slice none 0 0).cells (grownCap w (m + 1) m 22 - (m + 1))) 22)) := fun ty => by
    have h := Lib.run_append_grow_zeros w 23 3 ty 22 i0 _ .i64 .i64 Tryz.underlying23 Tryz.underlying3 hi0 hz0 (some ⟨g, 0, none⟩) i m (l.take i) hold (m + 1 - i) (by omega) (by omega) (by omega) (by omega) (by rw [hz2]; omega) (by rw [hz2, hik]; exact growslice_fits (by omega) (by omega))
    rw [hik] at h
    rw [hkk]
    exact h
  obtain ⟨G, hG⟩ : ∃ G, G = grownCap w (m + 1) m 22 := ⟨_, rfl⟩
  obtain ⟨ROW, hROW⟩ : ∃ ROW : Array Value, ROW = (l.take i).toArray ++ Builtin.zeroCells (Value.slice none 0 0).cells (m + 1 - i) ++ Builtin.zeroCells (Value.slice none 0 0).cells (G - (m + 1)) := ⟨_, rfl⟩
  rw [← hG] at hrz
  rw [← hROW] at hrz
  have hRl : m + 1 ≤ ROW.size := by
    rw [hROW]
    simp [Builtin.zeroCells, Value.cells]
    omega
  have hRg : ∀ j, j < i → ROW[j]? = l[j]? := fun j hj => by
    rw [hROW, Array.append_assoc, Array.getElem?_append_left (by simp; omega)]
    simp [List.getElem?_take, hj]
  obtain ⟨W1, hW1⟩ : ∃ W1, W1 = w.drew.alloc (.cells ROW 22) := ⟨_, rfl⟩
  rw [← hW1] at hrz
  have hN : ∀ j, j < m + 1 → (W1.cell? ⟨w.heap.size, j, none⟩).isSome = true := fun j hj => by
    rw [hW1, World.cell?_alloc_at (w := w.drew) ROW _ w.heap.size j rfl, Array.getElem?_eq_getElem (by omega)]; rfl
  have hNl : ∀ j, j < i → W1.cell? ⟨w.heap.size, j, none⟩ = l[j]? := fun j hj => by
    rw [hW1, World.cell?_alloc_at (w := w.drew) ROW _ w.heap.size j rfl, hRg j hj]
  have hNf : ∀ j, W1.frozen? ⟨w.heap.size, j, none⟩ = false := fun j => by rw [hW1]; exact World.frozen?_alloc_at (w := w.drew) ROW _ w.heap.size j rfl
  have hOb : ∀ j, W1.cell? ⟨g, j, none⟩ = w.cell? ⟨g, j, none⟩ := fun j => by rw [hW1, World.cell?_alloc_past (w := w.drew) _ g j hbw]; rfl
  have hOv : W1.cell? ⟨X, 0, none⟩ = some x := by rw [hW1, World.cell?_alloc_past (w := w.drew) _ X 0 hvw]; show w.cell? _ = _; rw [cell_of_row w X _ _ _ _ hx]; rfl
  have hcpA : ∀ (W : World), (∀ x, W.cell? x = W1.cell? x) → (∀ x, W.frozen? x = W1.frozen? x) → ∀ ty dc, (Builtin.copy_ #[23, 23] ty #[.slice (some ⟨w.heap.size, i, none⟩) (m + 1 - i) dc, .slice (some ⟨X, 0, none⟩) 1 1]).run Tryz.prog W = .ok (goInt [x].length) (W.setCells w.heap.size i [x]) := fun W hWc hWf ty dc =>
    run_copy_cells W _ _ ty 22 w.heap.size i (m + 1 - i) dc ⟨X, 0, none⟩ 1 1 [x] Tryz.underlying23 hsz (by simp only [List.length_singleton, Nat.min_def]; split <;> omega)
      (fun j v hj => by
        have hj2 : j < [x].length := (List.getElem?_eq_some_iff.1 hj).1
        obtain rfl : j = 0 := by simp at hj2; omega
        rw [Addr.add_lit, hWc, hOv]
        simpa using hj)
      (fun j hj => by rw [hWc]; exact hN _ (by simp at hj; omega)) (fun j hj => by rw [hWf]; exact hNf _) (fun v hv => by rw [List.mem_singleton.1 hv]; exact h1x)
  have hGn : m + 1 ≤ G := by rw [hG]; exact grownCap_ge w _ _ _
  have hGm : G ≤ maxLen := by
    have := grownCap_le_maxLen w (m + 1) m 22 (by unfold maxLen; omega)
    rw [← hG] at this
    exact this
  have hG63 : G ≤ 9223372036854775807 := by unfold maxLen at hGm; omega
  have hGi : ¬ (G = i) := by omega
  have hGim : ¬ (G = i + 1) := by omega
  have hci : ¬ (m = i) := by omega
  have hbN : g ≠ w.heap.size := by omega
  have hcpB : ∀ (W : World), (∀ y, W.cell? y = (W1.setCells w.heap.size i [x]).cell? y) → (∀ y, W.frozen? y = (W1.setCells w.heap.size i [x]).frozen? y) → ∀ ty dc sc, (Builtin.copy_ #[23, 23] ty #[.slice (some ⟨w.heap.size, i + 1, none⟩) (m - i) dc, .slice (some ⟨g, i, none⟩) (m - i) sc]).run Tryz.prog W = .ok (goInt (l.drop i).length) (W.setCells w.heap.size (i + 1) (l.drop i)) := fun W hWc hWf ty dc sc =>
    run_copy_cells W _ _ ty 22 w.heap.size (i + 1) (m - i) dc ⟨g, i, none⟩ (m - i) sc (l.drop i) Tryz.underlying23 hsz (by rw [hdl]; simp only [Nat.min_def]; split <;> omega)
      (fun j v hj => by
        have hj2 : j < (l.drop i).length := (List.getElem?_eq_some_iff.1 hj).1
        rw [Addr.add_lit, hWc, World.cell?_setCells_out _ _ _ _ _ (fun h _ => absurd h hbN), hOb, hl _ (by omega)]
        rwa [List.getElem?_drop] at hj)
      (fun j hj => by rw [hWc]; exact World.isSome_setCells _ _ _ _ _ (hN _ (by omega)))
      (fun j hj => by rw [hWf, World.frozen?_setCells]; exact hNf _) (fun v hv => h1 v (List.mem_of_mem_drop hv))
  have HR := Lib.hid (fun (W : World) (hW : ∀ y, W.cell? y = ((W1.setCells w.heap.size i [x]).setCells w.heap.size (i + 1) (l.drop i)).cell? y) (hs : W.heap.size = w.heap.size + 1) => rdM_at (W := W) (g := w.heap.size) (c := G) (show (insL l i x).length = m + 1 by rw [insL_len x (by omega), hm]) (by omega) ⟨hGn, hGm⟩ (fun j hj => by rw [hW]; exact ins_read_b x hm hi hNl hN j hj))
  have HB := Lib.hid (show Below base w (((((w.alloc (.cells ROW 22)).drew.setCells w.heap.size i [x]).drew).setCells w.heap.size (i + 1) (l.drop i))) from
    below_cells hbase _ _ (below_cells hbase _ _ ((Below.refl base w).alloc hbase _).drew).drew)
  have HBS := Lib.hid hbase
  subst hW1
  have hE1 : ∀ x, ((w.alloc (.cells ROW 22)).drew).cell? x = (w.drew.alloc (.cells ROW 22)).cell? x := fun x => rfl
  have hE2 : ∀ x, ((w.alloc (.cells ROW 22)).drew).frozen? x = (w.drew.alloc (.cells ROW 22)).frozen? x := fun x => rfl
  have hF1 : ∀ y, (((w.alloc (.cells ROW 22)).drew.setCells w.heap.size i [x]).drew).cell? y = ((w.drew.alloc (.cells ROW 22)).setCells w.heap.size i [x]).cell? y := fun x => rfl
  have hF2 : ∀ y, (((w.alloc (.cells ROW 22)).drew.setCells w.heap.size i [x]).drew).frozen? y = ((w.drew.alloc (.cells ROW 22)).setCells w.heap.size i [x]).frozen? y := fun x => rfl
  have hw1 : IntKind.i64.wrap ((i : Int) + 1) = (i : Int) + 1 := by rw [IntKind.wrap_i64]; omega
  have htn : ((i : Int) + 1).toNat = i + 1 := by omega
  have hb1 : (0 : Int) ≤ (i : Int) + 1 := by omega
  have hb3 : (i : Int) ≤ (m : Int) := by omega
  have hz2' : ¬ ((i : Int) = (m : Int)) := by omega
  clear hkk hik hold hROW hG hRl hRg hN hNl hNf hOb hOv hl hsz h h' hg h1 h1x hx hz0 hz2
  go_enter Tryz.func35, Tryz.ntmps35
  go_wp2_with (first
    | (at_builtin; refine Lib.wpList_append_run _ rfl _ _ _ _ rfl _ _ rfl rfl _ _ (hrz _) ?_)
    | (at_builtin; refine wpList_copy_runI _ rfl _ _ 23 23 rfl _ _ rfl rfl (hcpA _ hE1 hE2 _ _) ?_))
  go_region_law_o (refine step_copy_runI rfl _ _ 23 23 rfl (.slice (some ⟨w.heap.size, i + 1, none⟩) (m - i) (G - (i + 1))) (.slice (some ⟨g, i, none⟩) (m - i) (m - i)) (by simp [Act.eval, Act.put]) (by simp [Act.eval, Act.put]) (hcpB _ hF1 hF2 3 (G - (i + 1)) (m - i)) ?_)
  go_wp2
  go_ret
  exact ⟨w.heap.size, G, HBS.out, rfl, HR.out _ (fun y => by rw [show w.drew.alloc (.cells ROW 22) = (w.alloc (.cells ROW 22)).drew from rfl]; simp only [← drew_setCells]; rfl) (by simp [size_cells]), HB.out⟩
end Go.Proofs.YtahidclhplmkiaaGreatDoor
