/- Package num: rows of words that a call has made. -/
import Derived.Test.YtfheoplcjeimdaaGreatDoorNma


namespace Go.Proofs.YtfheoplcjeimdaaGreatDoor
open Go.RowKit
set_option linter.unusedVariables false
set_option linter.unusedSimpArgs false

theorem u64s_len (l : List Nat) : (u64s l).length = l.length := by simp [u64s]
theorem u64s_append (a b : List Nat) : u64s (a ++ b) = u64s a ++ u64s b := by simp [u64s]
theorem u64s_set (l : List Nat) (k x : Nat) : u64s (l.set k x) = (u64s l).set k (.int .u64 (x : Int)) := by simp [u64s, List.map_set]
theorem info_u64 : (Tryz.prog.info? 137).map (fun i => (i.zero, i.size, i.bytes)) = some (some (.int .u64 0), 1, 8) := by kernel_rfl
theorem make_big (m : Nat) (hm : m ≤ 1000000) : ∀ W : World, (Instr.makeSlice 88 (.int .i64 (m : Int)) (.int .i64 (m : Int))).run Tryz.prog W = .ok (.slice (some ⟨W.heap.size, 0, none⟩) m m) (W.alloc (.cells (madeCells #[.int .u64 0] m) 137)) := by
  intro W
  exact run_make_row' 88 137 (.int .u64 0) 8 Tryz.underlying88 info_u64 rfl .i64 .i64 m (by omega) (by omega) W
/-- A row of words of the call's own. -/
def OwnW (w : World) (base : Nat) (v : Value) (l : List Nat) : Prop := w.ownsRow base 137 1 v l.length (u64s l)
theorem own_big (W : World) (base m : Nat) (hb : base ≤ W.heap.size) (hm : m ≤ 1000000) :
    OwnW (W.alloc (.cells (madeCells #[.int .u64 0] m) 137)) base (.slice (some ⟨W.heap.size, 0, none⟩) m m) (List.replicate m 0) := by
  have := World.ownsRow_lit (base := base) (e := 137) (size := 1) W (madeCells #[.int .u64 0] m) m hb (by simp only [maxLen]; omega) (by simp [madeCells])
  have hl : (madeCells #[Value.int .u64 0] m).toList = u64s (List.replicate m 0) := by
    apply List.ext_getElem
    · simp [u64s, madeCells]
    · intro i h1 h2
      simp [u64s, madeCells, Nat.mod_one]
  unfold OwnW
  rw [List.length_replicate]
  rwa [hl] at this
theorem OwnW.below {w w1 : World} {base : Nat} {v : Value} {l : List Nat} (h : OwnW w base v l) (hb : Below w.heap.size w w1) : OwnW w1 base v l := ownB h hb
theorem OwnW.reads {w : World} {base : Nat} {v : Value} {l : List Nat} (h : OwnW w base v l) : RdB w v l := by
  rcases h.2 with ⟨rfl, h1⟩ | ⟨g, cap, cur, rfl, _, hh, hc, _⟩
  · exact ⟨none, 0, by rw [h1], by omega, fun hp => absurd hp (by omega)⟩
  · refine ⟨_, cap, rfl, hc, fun h0 => ⟨g, 0, rfl, (h.lt g rfl).2, fun j hj => ?_⟩⟩
    have h' : w.ownsRow base 137 1 (.slice (some ⟨g, 0, none⟩) l.length cap) l.length (u64s l) := h
    rw [Nat.zero_add, h'.cellAt j (by omega)]
    simp [u64s, List.getElem?_eq_getElem hj, List.getD_eq_getElem?_getD]
theorem OwnW.cell {w : World} {base g n cap : Nat} {l : List Nat} (h : OwnW w base (.slice (some ⟨g, 0, none⟩) n cap) l) (j : Nat) (hj : j < l.length) : w.cell? ⟨g, j, none⟩ = some (.int .u64 (l.getD j 0 : Nat)) ∧ w.frozen? ⟨g, j, none⟩ = false := by
  have hn : n = l.length := by
    rcases h.2 with ⟨h1, _⟩ | ⟨g, cap, cur, h1, _⟩
    · cases h1
    · injection h1
  subst hn
  have h' : w.ownsRow base 137 1 (.slice (some ⟨g, 0, none⟩) l.length cap) l.length (u64s l) := h
  refine ⟨?_, h'.frozenAt j⟩
  rw [h'.cellAt j (by omega)]
  simp [u64s, List.getElem?_eq_getElem hj, List.getD_eq_getElem?_getD]
/-- A word is stored. -/
theorem OwnW.put {w w0 : World} {base B g n cap : Nat} {l : List Nat} (h : OwnW w base (.slice (some ⟨g, 0, none⟩) n cap) l) (k x : Nat) (hB : B ≤ base) (hb : Below B w0 w) :
    OwnW (w.setCell ⟨g, k, none⟩ (.int .u64 (x : Int))) base (.slice (some ⟨g, 0, none⟩) n cap) (l.set k x) ∧ Below B w0 (w.setCell ⟨g, k, none⟩ (.int .u64 (x : Int))) := by
  have hn : n = l.length := by
    rcases h.2 with ⟨h1, _⟩ | ⟨g, cap, cur, h1, _⟩
    · cases h1
    · injection h1
  subst hn
  have h' : w.ownsRow base 137 1 (.slice (some ⟨g, 0, none⟩) l.length cap) l.length (u64s l) := h
  obtain ⟨h1, h2⟩ := h'.stored k (.int .u64 (x : Int))
  refine ⟨?_, hb.grown h2 ?_ ?_⟩
  · unfold OwnW; rw [List.length_set, u64s_set]; exact h1
  · have := (h'.lt g rfl); omega
  · intro q hq; injection hq with hq; subst hq; have := (h'.lt g rfl).1; omega
theorem val_u64 {a b : Int} (h : a = b) : Value.int .u64 a = .int .u64 b := by rw [h]

theorem modc (a : Nat) {z : Int} (h : z = a) : z % 1000000000 = ((a % bs : Nat) : Int) := by unfold bs; omega
theorem divc (a : Nat) {z : Int} (h : z = a) : z / 1000000000 = ((a / bs : Nat) : Int) := by unfold bs; omega
/-- '[]byte(s)': the bytes stand in a new block. -/
theorem conv_any (s : ByteArray) (w : World) : (convert 9 170 (.string s)).run Tryz.prog w = .ok (.slice (some ⟨w.heap.size, 0, none⟩) s.size (grownCap w s.size 0 5)) (w.drew.alloc (.cells (bytesRow s (grownCap w s.size 0 5)) 5 ((bytesRow s (grownCap w s.size 0 5)).size, (bytesRow s (grownCap w s.size 0 5)).size + 1))) :=
  run_bytes_of_string w _ _ _ s Tryz.underlying9 Tryz.underlying170 Tryz.underlying5
theorem bytesRow_get (s : ByteArray) (cap j : Nat) (h : j < s.size) : (bytesRow s cap)[j]? = some (.int .u8 (s.data.toList.getD j 0).toNat) := by
  have hs : s.data.size = s.size := rfl
  unfold bytesRow
  rw [Array.getElem?_append_left (by simp; omega)]
  simp [List.getD_eq_getElem?_getD, Array.getElem?_eq_getElem (show j < s.data.size by omega)]
theorem bytes_cell (s : ByteArray) (cap j : Nat) (w : World) (t : TypeId) (fr : Nat × Nat) (h : j < s.size) : (w.alloc (.cells (bytesRow s cap) t fr)).cell? ⟨w.heap.size, j, none⟩ = some (.int .u8 (s.data.toList.getD j 0).toNat) := by
  rw [cell_of_row _ w.heap.size j (bytesRow s cap) t fr (heap_alloc_new w _)]
  exact bytesRow_get s cap j h
end Go.Proofs.YtfheoplcjeimdaaGreatDoor
