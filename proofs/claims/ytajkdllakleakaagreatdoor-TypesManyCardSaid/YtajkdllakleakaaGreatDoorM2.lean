/- Items in memory, one by one; what a counter of sizes holds. -/
import Derived.StillTailTactics
import Derived.LaidEqlPtr
import Derived.LoopN
import Derived.Laws.EntriesVeiled
import Derived.Test.YtajkdllakleakaaGreatDoorM1
namespace Go.Proofs.YtajkdllakleakaaGreatDoor
open Go.RowKit
set_option linter.unusedVariables false
set_option linter.unusedSimpArgs false

theorem box1 (w : World) (t : TypeId) (cs : Array Value) : Below w.heap.size w (w.alloc (.cells cs t)) := (Below.refl _ _).alloc (Nat.le_refl _) _
/-- A region whose first n operations leave the world as it is, in any order. -/
theorem still_tail_d {P : Program} {id : Nat} {Q : Exit → Act → World → Prop} {a : Act} {w : World} {l : List Oper} (n : Nat) (hm : P.follows .mixedOrders = true) (hB : Region.lexTailB .any l.toArray n = true)
    (h : wpStill P l.toArray w.drew (fun a' => wpList P l.toArray Q (l.drop n) a' w.drew) (l.take n) a) : (Code.region id l.toArray true).wp P Q a w := wp_region_still_tail n hm hB h
theorem RdRows.slice {w : World} {wd : Nat} {rows : List (List Value)} {A : Option Addr} {n c : Nat} (h : RdRows w wd rows (.slice A n c)) :
    rows.length = n ∧ n ≤ maxLen ∧ (0 < n → ∃ b off, A = some ⟨b, off, none⟩ ∧ b < w.heap.size ∧ ∀ j, j < n → ∀ i, i < wd → w.cell? ⟨b, off + j * wd + i, none⟩ = some ((rows.getD j []).getD i undef)) := by
  obtain ⟨A', c', e, hm, h⟩ := h
  cases e
  exact ⟨rfl, Nat.le_trans hm.2.1 hm.2.2, h⟩
theorem RdRows.capd {w : World} {wd : Nat} {rows : List (List Value)} {A : Option Addr} {n c : Nat} (h : RdRows w wd rows (.slice A n c)) : Capd A n c := by
  obtain ⟨A', c', e, hm, h⟩ := h
  cases e
  exact hm
theorem RdRows.form {w : World} {wd : Nat} {rows : List (List Value)} {v : Value} (h : RdRows w wd rows v) : ∃ A c, v = .slice A rows.length c ∧ rows.length ≤ maxLen := by
  obtain ⟨A, c, e, hm, _⟩ := h
  exact ⟨A, c, e, Nat.le_trans hm.2.1 hm.2.2⟩
theorem drop_cons {α : Type} {l : List α} {k : Nat} (hk : k < l.length) : l.drop k = l[k] :: l.drop (k + 1) := List.drop_eq_getElem_cons hk
theorem RdI.form {w : World} {l : List IRow} {v : Value} (h : RdI w l v) : ∃ A c, v = .slice A l.length c ∧ l.length ≤ maxLen := by
  have := RdRows.form h
  simpa using this
theorem RdP.form {w : World} {l : List PRow} {v : Value} (h : RdP w l v) : ∃ A c, v = .slice A l.length c ∧ l.length ≤ maxLen := by
  have := RdRows.form h
  simpa using this
theorem RdM.form {w : World} {l : List Value} {v : Value} (h : RdM w l v) : ∃ A c, v = .slice A l.length c ∧ l.length ≤ maxLen := by
  have := RdRows.form h
  simpa using this
theorem RdF.form {w : World} {l : List BRow} {v : Value} (h : RdF w l v) : ∃ A c, v = .slice A l.length c ∧ l.length ≤ maxLen := by
  have := RdRows.form h
  simpa using this
/-- The cells of one item of a sequence. -/
def ICells (W : World) (b o : Nat) (r : IRow) : Prop :=
  W.cell? ⟨b, o, none⟩ = some (.int .i64 r.k) ∧ W.cell? ⟨b, o + 1, none⟩ = some (.int .i64 r.ak) ∧ W.cell? ⟨b, o + 2, none⟩ = some (.string r.tx) ∧ W.cell? ⟨b, o + 3, none⟩ = some (.int .i64 r.tr) ∧
  W.cell? ⟨b, o + 4, none⟩ = some (.int .i64 r.nd) ∧ W.cell? ⟨b, o + 5, none⟩ = some r.ps ∧ W.cell? ⟨b, o + 6, none⟩ = some r.ms ∧ W.cell? ⟨b, o + 7, none⟩ = some r.fn
theorem RdI.row {w W : World} {l : List IRow} {A : Option Addr} {n c : Nat} (h : RdI w l (.slice A n c)) (hb : Below w.heap.size w W) {k : Nat} (hk : k < n) :
    ∃ b off r, A = some ⟨b, off, none⟩ ∧ b < w.heap.size ∧ l[k]? = some r ∧ l.drop k = r :: l.drop (k + 1) ∧ ICells W b (off + k * 8) r := by
  obtain ⟨h1, h2, h3⟩ := RdRows.slice h
  obtain ⟨b, off, rfl, hlt, hc⟩ := h3 (by omega)
  have hl : k < l.length := by simp only [List.length_map] at h1; omega
  have hg : (l.map IRow.cells).getD k [] = (l[k]).cells := by simp [List.getD_eq_getElem?_getD, hl]
  have key : ∀ i, i < 8 → W.cell? ⟨b, off + k * 8 + i, none⟩ = some ((l[k]).cells.getD i undef) := fun i hi => by
    have := (hb.cell (p := ⟨b, off + k * 8 + i, none⟩) hlt).trans (hc k hk i hi)
    rw [hg] at this; exact this
  exact ⟨b, off, l[k], rfl, hlt, List.getElem?_eq_getElem hl, drop_cons hl, key 0 (by decide), key 1 (by decide), key 2 (by decide), key 3 (by decide), key 4 (by decide), key 5 (by decide), key 6 (by decide), key 7 (by decide)⟩
theorem RdP.row {w W : World} {l : List PRow} {A : Option Addr} {n c : Nat} (h : RdP w l (.slice A n c)) (hb : Below w.heap.size w W) {k : Nat} (hk : k < n) :
    ∃ b off r, A = some ⟨b, off, none⟩ ∧ b < w.heap.size ∧ l[k]? = some r ∧ l.drop k = r :: l.drop (k + 1) ∧ W.cell? ⟨b, off + k * 3, none⟩ = some (.int .i64 r.ak) ∧ W.cell? ⟨b, off + k * 3 + 1, none⟩ = some (.string r.tx) ∧ W.cell? ⟨b, off + k * 3 + 2, none⟩ = some r.v := by
  obtain ⟨h1, h2, h3⟩ := RdRows.slice h
  obtain ⟨b, off, rfl, hlt, hc⟩ := h3 (by omega)
  have hl : k < l.length := by simp only [List.length_map] at h1; omega
  have hg : (l.map PRow.cells).getD k [] = (l[k]).cells := by simp [List.getD_eq_getElem?_getD, hl]
  have key : ∀ i, i < 3 → W.cell? ⟨b, off + k * 3 + i, none⟩ = some ((l[k]).cells.getD i undef) := fun i hi => by
    have := (hb.cell (p := ⟨b, off + k * 3 + i, none⟩) hlt).trans (hc k hk i hi)
    rw [hg] at this; exact this
  exact ⟨b, off, l[k], rfl, hlt, List.getElem?_eq_getElem hl, drop_cons hl, key 0 (by decide), key 1 (by decide), key 2 (by decide)⟩
theorem RdF.row {w W : World} {l : List BRow} {A : Option Addr} {n c : Nat} (h : RdF w l (.slice A n c)) (hb : Below w.heap.size w W) {k : Nat} (hk : k < n) :
    ∃ b off r, A = some ⟨b, off, none⟩ ∧ b < w.heap.size ∧ l[k]? = some r ∧ l.drop k = r :: l.drop (k + 1) ∧ W.cell? ⟨b, off + k * 2, none⟩ = some (.string r.nm) ∧ W.cell? ⟨b, off + k * 2 + 1, none⟩ = some r.v := by
  obtain ⟨h1, h2, h3⟩ := RdRows.slice h
  obtain ⟨b, off, rfl, hlt, hc⟩ := h3 (by omega)
  have hl : k < l.length := by simp only [List.length_map] at h1; omega
  have hg : (l.map BRow.cells).getD k [] = (l[k]).cells := by simp [List.getD_eq_getElem?_getD, hl]
  have key : ∀ i, i < 2 → W.cell? ⟨b, off + k * 2 + i, none⟩ = some ((l[k]).cells.getD i undef) := fun i hi => by
    have := (hb.cell (p := ⟨b, off + k * 2 + i, none⟩) hlt).trans (hc k hk i hi)
    rw [hg] at this; exact this
  exact ⟨b, off, l[k], rfl, hlt, List.getElem?_eq_getElem hl, drop_cons hl, key 0 (by decide), key 1 (by decide)⟩
theorem RdM.row {w W : World} {l : List Value} {A : Option Addr} {n c : Nat} (h : RdM w l (.slice A n c)) (hb : Below w.heap.size w W) {k : Nat} (hk : k < n) :
    ∃ b off r, A = some ⟨b, off, none⟩ ∧ b < w.heap.size ∧ l[k]? = some r ∧ l.drop k = r :: l.drop (k + 1) ∧ W.cell? ⟨b, off + k, none⟩ = some r := by
  obtain ⟨h1, h2, h3⟩ := RdRows.slice h
  obtain ⟨b, off, rfl, hlt, hc⟩ := h3 (by omega)
  have hl : k < l.length := by simp only [List.length_map] at h1; omega
  have hg : (l.map fun x => [x]).getD k [] = [l[k]] := by simp [List.getD_eq_getElem?_getD, hl]
  have := (hb.cell (p := ⟨b, off + k * 1 + 0, none⟩) hlt).trans (hc k hk 0 (by decide))
  rw [hg, Nat.mul_one, Nat.add_zero] at this
  exact ⟨b, off, l[k], rfl, hlt, List.getElem?_eq_getElem hl, drop_cons hl, this⟩
theorem SqR.pos {w : World} {d : Nat} {v : Value} {n b : Nat} {f : List IRow} (h : SqR w d v n b f) : ∃ d', d = d' + 1 := by
  cases d with
  | zero => exact h.elim
  | succ d => exact ⟨d, rfl⟩

theorem SqR.one {w : World} {d : Nat} {v : Value} {n b : Nat} {f : List IRow} (h : SqR w d v n b f) : v.oneCell' = true := by
  obtain ⟨d, rfl⟩ := h.pos
  obtain ⟨l, h1, _⟩ := h
  obtain ⟨A, c, rfl, _⟩ := h1.form
  rfl
theorem SumR.len {α : Type} {P : α → Nat → Nat → List IRow → Prop} (hP : ∀ x n b f, P x n b f → 1 ≤ n) {l : List α} {n b : Nat} {f : List IRow} (H : SumR P l n b f) : l.length ≤ n := by
  induction H with
  | nil => exact Nat.le_refl _
  | cons h1 _ ih => have := hP _ _ _ _ h1; simp only [List.length_cons]; omega
/-- Whether there is too much. -/
def ovB (n b : Nat) : Bool := decide (262144 < n) || decide (4194304 < b)
theorem ovB_mono {n b n' b' : Nat} (h : ovB n b = true) (hn : n ≤ n') (hb : b ≤ b') : ovB n' b' = true := by
  simp only [ovB, Bool.or_eq_true, decide_eq_true_eq] at h ⊢; omega
/-- What a counter holds behind N items and B bytes: it stops when there is too much. -/
structure CntI (N B n b : Nat) : Prop where
  hn : n ≤ N
  hb : b ≤ B
  eq : ovB N B = false → n = N ∧ b = B
  ov : ovB N B = true → ovB n b = true
theorem CntI.zero : CntI 0 0 0 0 := ⟨Nat.le_refl _, Nat.le_refl _, fun _ => ⟨rfl, rfl⟩, id⟩
theorem CntI.same (n b : Nat) : CntI n b n b := ⟨Nat.le_refl _, Nat.le_refl _, fun _ => ⟨rfl, rfl⟩, id⟩
theorem CntI.stop {N B n b : Nat} (h : CntI N B n b) (ho : ovB n b = true) {N' B' : Nat} (hN : N ≤ N') (hB : B ≤ B') : CntI N' B' n b :=
  ⟨Nat.le_trans h.hn hN, Nat.le_trans h.hb hB, fun e => (by rw [ovB_mono ho (Nat.le_trans h.hn hN) (Nat.le_trans h.hb hB)] at e; cases e), fun _ => ho⟩
theorem CntI.go {N B n b : Nat} (h : CntI N B n b) (ho : ovB n b = false) : n = N ∧ b = B := by
  refine h.eq ?_
  cases e : ovB N B with
  | false => rfl
  | true => rw [h.ov e] at ho; cases ho
theorem CntI.more {N B n b : Nat} (h : CntI N B n b) (ho : ovB n b = false) (x y : Nat) : CntI (N + x) (B + y) (n + x) (b + y) := by
  obtain ⟨rfl, rfl⟩ := h.go ho
  exact .same _ _
theorem CntI.out {N B n b : Nat} (h : CntI N B n b) : ovB n b = ovB N B := by
  cases e : ovB N B with
  | false => obtain ⟨rfl, rfl⟩ := h.eq e; exact e
  | true => exact h.ov e
theorem CntI.end_ {N B n b : Nat} (h : CntI N B n b) : CntI (N + 0) (B + 0) n b := h
end Go.Proofs.YtajkdllakleakaaGreatDoor
/- Rows of the call's own, as rows that are read; slices.Clone of members. -/
namespace Go.Proofs.YtajkdllakleakaaGreatDoor
open Go.RowKit
set_option linter.unusedVariables false
set_option linter.unusedSimpArgs false

theorem flat_len {wd : Nat} : ∀ (rows : List (List Value)), (∀ r, r ∈ rows → r.length = wd) → rows.flatten.length = rows.length * wd
  | [], _ => by simp
  | r :: rows, h => by
    rw [List.flatten_cons, List.length_append, h r (List.mem_cons_self ..), flat_len rows fun x hx => h x (List.mem_cons_of_mem _ hx), List.length_cons, Nat.succ_mul, Nat.add_comm]
theorem flat_get {wd : Nat} : ∀ (rows : List (List Value)), (∀ r, r ∈ rows → r.length = wd) → ∀ j i, j < rows.length → i < wd → rows.flatten[j * wd + i]? = some ((rows.getD j []).getD i undef)
  | [], _, j, i, hj, _ => absurd hj (by simp)
  | r :: rows, h, 0, i, _, hi => by
    have hr := h r (List.mem_cons_self ..)
    rw [List.flatten_cons, Nat.zero_mul, Nat.zero_add, List.getElem?_append_left (by omega)]
    simp [List.getD_eq_getElem?_getD, List.getElem?_eq_getElem (show i < r.length by omega)]
  | r :: rows, h, j + 1, i, hj, hi => by
    have hr := h r (List.mem_cons_self ..)
    have := flat_get rows (fun x hx => h x (List.mem_cons_of_mem _ hx)) j i (by simpa using hj) hi
    rw [List.flatten_cons, List.getElem?_append_right (by rw [hr, Nat.succ_mul]; omega), hr, show (j + 1) * wd + i - wd = j * wd + i by rw [Nat.succ_mul]; omega, this]
    simp [List.getD_eq_getElem?_getD]
/-- A row that the call owns reads as its rows. -/
theorem own_capd {W : World} {base : Nat} {e : TypeId} {wd n : Nat} {A : Option Addr} {m c : Nat} {xs : List Value} (h : W.ownsRow base e wd (.slice A m c) n xs) : m = n ∧ Capd A n c := by
  rcases h.2 with ⟨e, rfl⟩ | ⟨g, cap, cur, e, _, _, h3, h4, _⟩
  · cases e; exact ⟨rfl, fun _ => rfl, Nat.le_refl _, by simp⟩
  · cases e; exact ⟨rfl, fun e => (by cases e), h3, h4⟩
theorem rows_of_own {W : World} {base : Nat} {e : TypeId} {wd n : Nat} {v : Value} {rows : List (List Value)} (h : W.ownsRow base e wd v n rows.flatten) (hl : rows.length = n) (hw : ∀ r, r ∈ rows → r.length = wd) (hn : n ≤ maxLen) : RdRows W wd rows v := by
  subst hl
  rcases Nat.eq_zero_or_pos rows.length with h0 | h0
  · obtain rfl := List.length_eq_zero_iff.1 h0
    rcases h.2 with ⟨rfl, _⟩ | ⟨g, cap, cur, rfl, _⟩
    · exact RdRows.nil W wd none 0 (own_capd h).2
    · exact RdRows.nil W wd _ cap (own_capd h).2
  · obtain ⟨g, cap, rfl, hb, hlt⟩ := h.form h0
    refine ⟨_, cap, rfl, (own_capd h).2, fun _ => ⟨g, 0, rfl, hlt, fun j hj i hi => ?_⟩⟩
    have hji : j * wd + i < rows.length * wd := by
      have : (j + 1) * wd ≤ rows.length * wd := Nat.mul_le_mul_right wd hj
      rw [Nat.succ_mul] at this; omega
    rw [Nat.zero_add, h.cellAt (j * wd + i) hji]
    exact flat_get rows hw j i hj hi
/-- The cells of rows that are read, one behind the other. -/
theorem RdRows.cells {w : World} {wd : Nat} {rows : List (List Value)} {b off n c : Nat} (h : RdRows w wd rows (.slice (some ⟨b, off, none⟩) n c)) (hw : ∀ r, r ∈ rows → r.length = wd) (hwd : 0 < wd) : ∀ j u, rows.flatten[j]? = some u → w.cell? ⟨b, off + j, none⟩ = some u := by
  obtain ⟨h1, h2, h3⟩ := RdRows.slice h
  intro j u hj
  have hlt : j < rows.length * wd := by
    have := (List.getElem?_eq_some_iff.1 hj).1
    rwa [flat_len rows hw] at this
  have hn : 0 < n := by
    rcases Nat.eq_zero_or_pos n with e | e
    · rw [h1, e] at hlt; omega
    · exact e
  obtain ⟨b', off', e, _, hc⟩ := h3 hn
  cases e
  have hq : j / wd < n := by rw [← h1]; exact (Nat.div_lt_iff_lt_mul hwd).2 hlt
  have hr : j % wd < wd := Nat.mod_lt _ hwd
  have e2 : j / wd * wd + j % wd = j := by rw [Nat.mul_comm]; exact Nat.div_add_mod j wd
  have := hc (j / wd) hq (j % wd) hr
  rw [Nat.add_assoc, e2] at this
  rw [this]
  have g := flat_get rows hw (j / wd) (j % wd) (by rw [h1]; exact hq) hr
  rw [e2, hj] at g
  exact g.symm
/-- Members of the call's own. -/
def OwnM (W : World) (base : Nat) (v : Value) (ms : List Value) : Prop := W.ownsRow base 22 1 v ms.length ms
theorem one_flat (ms : List Value) : (ms.map fun x => [x]).flatten = ms := by
  induction ms with
  | nil => rfl
  | cons x l ih => simp [ih]
theorem OwnM.reads {W : World} {base : Nat} {v : Value} {ms : List Value} (h : OwnM W base v ms) (hn : ms.length ≤ maxLen) : RdM W ms v := by
  refine rows_of_own (by rw [one_flat]; exact h) (by simp) (fun r hr => ?_) hn
  obtain ⟨x, _, rfl⟩ := List.mem_map.1 hr
  rfl
theorem RdM.cells {w : World} {ms : List Value} {b off n c : Nat} (h : RdM w ms (.slice (some ⟨b, off, none⟩) n c)) : ∀ j u, ms[j]? = some u → w.cell? ⟨b, off + j, none⟩ = some u := by
  have := RdRows.cells h (fun r hr => by obtain ⟨x, _, rfl⟩ := List.mem_map.1 hr; rfl) (by decide)
  rwa [one_flat] at this
theorem info_qI : (Tryz.prog.info? 22).map (fun i => (i.zero, i.size, i.bytes)) = some (some (.slice none 0 0), 1, 24) := by kernel_rfl

set_option maxRecDepth 100000 in
theorem cloneM_any (ms : List Value) (v : Value) (w : World) (h : RdM w ms v) (hn : ms.length ≤ 1000000) (h1 : ∀ m, m ∈ ms → m.oneCell' = true) :
    Calls Tryz.prog 38 #[v] w fun e w' => ∃ v', e = .returned v' ∧ OwnM w' w.heap.size v' ms ∧ Below w.heap.size w w' := by
  obtain ⟨A, c, rfl, hc⟩ := h.form
  have HR := Lib.hid h
  have H1 := Lib.hid h1
  clear h h1
  have q88 : ∀ (w : World) (a : Option Addr) (n c n' c' : Nat), (binOp .eql 26 (.slice a n c) (.slice none n' c')).run Tryz.prog w = .ok (.bool a.isNone) w := fun w a n c n' c' => Lib.run_eql_slice_nil w _ _ a n c n' c' Tryz.underlying26
  obtain ⟨i0, hi, hz0, hz1, hz2⟩ := info_parts info_qI
  rcases A with _ | ad
  · have h0 : ms.length = 0 := by
      rcases Nat.eq_zero_or_pos ms.length with e | e
      · exact e
      · obtain ⟨b, off, _, e2, _⟩ := HR.out.row (Below.refl _ _) e; cases e2
    obtain rfl : ms = [] := List.length_eq_zero_iff.1 h0
    go_enter Tryz.func38, Tryz.ntmps38
    go_wp2
    go_ret
    exact ⟨_, rfl, World.ownsRow_nil _ _ _ _, Below.refl _ _⟩
  · have HN := Lib.hid hn
    go_enter Tryz.func38, Tryz.ntmps38
    go_wp2_with (at_builtin; refine wpList_append_own _ rfl _ _ 26 rfl w.heap.size 22 i0 (.slice none 0 0) 1 24 Tryz.underlying26 hi hz0 hz1 hz2 rfl (by decide) _ _ _ rfl (World.ownsRow_made w #[] 0 (Nat.le_refl _) (Nat.zero_le _) rfl) ad ms.length c ms rfl ?qc1 ?qc2 ?qc3 ?qc4 ?qc5 ?qc6 ?_)
    case qc1 => simp
    case qc2 =>
      intro j u hj
      have hjn : j < ms.length := (List.getElem?_eq_some_iff.1 hj).1
      obtain ⟨b, off, _, e, hlt, _⟩ := HR.out.row (Below.refl _ _) (show 0 < ms.length by omega)
      cases e
      rw [Addr.add_lit]
      exact Lib.cell?_alloc_some _ (HR.out.cells j u hj)
    case qc3 => exact fun u hu => H1.out u hu
    case qc4 => have := HN.out; simp only [maxLen]; omega
    case qc5 => have := HN.out; omega
    case qc6 => simp
    intro v' w' ho hg hnil
    have HB : Below w.heap.size w w' := ((Below.refl _ _).alloc (Nat.le_refl _) _).grown hg (by simp) (fun k hk => by injection hk with hk; subst hk; exact Nat.le_refl _)
    have HO := Lib.hid ho
    clear ho hg hnil
    go_wp2
    go_ret
    exact ⟨_, rfl, HO.out, HB⟩
end Go.Proofs.YtajkdllakleakaaGreatDoor
