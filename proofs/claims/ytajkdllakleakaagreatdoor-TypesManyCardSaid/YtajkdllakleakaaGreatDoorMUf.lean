/- Chapter 16: a block of items that is filled one by one. -/
import Derived.Test.YtajkdllakleakaaGreatDoorMUe
import Derived.Test.YtajkdllakleakaaGreatDoorMUc
import Derived.Deep.MidRow
import Derived.Laws.MakeOwn
namespace Go.Proofs.YtajkdllakleakaaGreatDoor
open Go.RowKit
set_option linter.unusedVariables false
set_option linter.unusedSimpArgs false

theorem info_itm : (Tryz.prog.info? 29).map (fun i => (i.zero, i.size, i.bytes)) = some (some (.agg #[.int .i64 0, .int .i64 0, .string { data := #[] }, .int .i64 0, .int .i64 0, .slice none 0 0, .slice none 0 0, .pointer none]), 8, 104) := by kernel_rfl
/-- A block of n zero items. -/
def zItm (n : Nat) : Obj := .cells (madeCells #[.int .i64 0, .int .i64 0, .string { data := #[] }, .int .i64 0, .int .i64 0, .slice none 0 0, .slice none 0 0, .pointer none] (n * 8)) 29 (0, 0)
theorem make_itm (n : Nat) (hn : n ≤ 1000000) : ∀ W : World, (Instr.makeSlice 22 (.int .i64 (n : Int)) (.int .i64 (n : Int))).run Tryz.prog W = .ok (.slice (some ⟨W.heap.size, 0, none⟩) n n) (W.alloc (zItm n)) := fun W => by
  obtain ⟨i, hi, hzz⟩ := Option.map_eq_some_iff.1 info_itm
  simp only [Prod.mk.injEq] at hzz
  obtain ⟨hz, hs, hb⟩ := hzz
  have := run_makeSlice (P := Tryz.prog) (w := W) 22 29 i _ Tryz.underlying22 hi hz .i64 .i64 (n : Int) (n : Int) (by omega) (by omega) (by rw [hs]; simp; omega) (by rw [hb]; omega) (by omega)
  simp only [Int.toNat_natCast, hs] at this
  exact this
/-- The first k of n items are the whole number s. -/
structure FillS (W : World) (g n k : Nat) (s : ByteArray) : Prop where
  lt : g < W.heap.size
  th : W.there g 0 (n * 8)
  at_ : ∀ j i, j < k → i < 8 → W.cell? ⟨g, j * 8 + i, none⟩ = some ((atomR 3 s).cells.getD i undef)
theorem cell_eq {W W' : World} {g o : Nat} (h : W'.heap[g]? = W.heap[g]?) : W'.cell? ⟨g, o, none⟩ = W.cell? ⟨g, o, none⟩ := by simp [World.cell?, h]
theorem frz_eq {W W' : World} {g o : Nat} (h : W'.heap[g]? = W.heap[g]?) : W'.frozen? ⟨g, o, none⟩ = W.frozen? ⟨g, o, none⟩ := by simp [World.frozen?, h]
theorem FillS.same {W W' : World} {g n k : Nat} {s : ByteArray} (h : FillS W g n k s) (hg : W'.heap[g]? = W.heap[g]?) : FillS W' g n k s := by
  refine ⟨?_, fun j hj => ?_, fun j i hj hi => (cell_eq hg).trans (h.at_ j i hj hi)⟩
  · have : W.heap[g]? = some (W.heap[g]'h.lt) := Array.getElem?_eq_getElem h.lt
    exact (Array.getElem?_eq_some_iff.1 (hg.trans this)).1
  · obtain ⟨h1, h2⟩ := h.th j hj
    exact ⟨by rw [cell_eq hg]; exact h1, by rw [frz_eq hg]; exact h2⟩
theorem FillS.go {W W' : World} {g n k : Nat} {s : ByteArray} (h : FillS W g n k s) (hb : Below W.heap.size W W') : FillS W' g n k s := h.same (hb.block g h.lt)
theorem FillS.new (W : World) (n : Nat) (s : ByteArray) : FillS (W.alloc (zItm n)) W.heap.size n 0 s := by
  have hn : (W.alloc (zItm n)).heap[W.heap.size]? = some (zItm n) := hp_new rfl
  refine ⟨by simp, fun j hj => ⟨?_, frz_of hn _⟩, fun j i hj => by omega⟩
  have := cell_of_row _ _ (0 + j) _ _ _ hn
  rw [this]
  have hs : (madeCells #[.int .i64 0, .int .i64 0, .string { data := #[] }, .int .i64 0, .int .i64 0, .slice none 0 0, .slice none 0 0, .pointer none] (n * 8)).size = n * 8 := size_madeCells _ _
  rw [Array.getElem?_eq_getElem (by rw [hs]; omega)]
  rfl
theorem FillS.row {W : World} {g n k : Nat} {s : ByteArray} (h : FillS W g n k s) (hk : k < n) : W.there g (k * 8) 8 := fun j hj => by
  have := h.th (k * 8 + j) (by omega)
  simpa using this
theorem FillS.step {W : World} {g n k : Nat} {s : ByteArray} (h : FillS W g n k s) (hk : k < n) : FillS (W.setCells g (k * 8) (atomR 3 s).cells) g n (k + 1) s := by
  have hr := h.row hk
  refine ⟨?_, World.there_setCells h.th _ _ _, fun j i hj hi => ?_⟩
  · have hsz := (World.keptBut_setCells g (may := fun _ => True) (atomR 3 s).cells (k * 8) W (fun _ _ => trivial))
    have h1 := h.th 0 (by omega)
    have h2 : ((W.setCells g (k * 8) (atomR 3 s).cells).cell? ⟨g, 0 + 0, none⟩).isSome = true := World.isSome_setCells g _ _ _ _ h1.1
    rw [Option.isSome_iff_exists] at h2
    obtain ⟨v, hv⟩ := h2
    unfold World.cell? at hv
    cases hh : (W.setCells g (k * 8) (atomR 3 s).cells).heap[g]? with
    | none => simp [hh] at hv
    | some x => exact (Array.getElem?_eq_some_iff.1 hh).1
  · by_cases e : j = k
    · subst e
      rw [World.cell?_setCells_in g _ _ _ (fun q hq => (hr q (by simpa [IRow.cells] using hq)).1) i (by simpa [IRow.cells] using hi)]
      rw [List.getD_eq_getElem?_getD, List.getElem?_eq_getElem (by simpa [IRow.cells] using hi)]
      rfl
    · rw [World.cell?_setCells_out g _ _ _ _ (fun _ _ => by simp only; left; omega)]
      exact h.at_ j i (by omega) hi
theorem bel_setCells {B g : Nat} (hg : B ≤ g) : ∀ (vs : List Value) (o : Nat) (a W : World), Below B a W → Below B a (W.setCells g o vs)
  | [], _, _, _, h => h
  | v :: r, o, a, W, h => bel_setCells hg r (o + 1) a _ (h.setCell (p := ⟨g, o, none⟩) hg v)
theorem FillS.reads {W : World} {g n : Nat} {s : ByteArray} (h : FillS W g n n s) (hn : n ≤ 1000000) : RdI W (List.replicate n (atomR 3 s)) (.slice (some ⟨g, 0, none⟩) n n) := by
  refine ⟨some ⟨g, 0, none⟩, n, by simp, ⟨fun e => (by cases e), by simp, by simp [maxLen]; omega⟩, fun _ => ⟨g, 0, rfl, h.lt, fun j hj i hi => ?_⟩⟩
  have hj' : j < n := by simpa using hj
  have := h.at_ j i hj' hi
  rw [show 0 + j * 8 + i = j * 8 + i by omega, this]
  congr 2
  simp [List.getD_eq_getElem?_getD, hj']
end Go.Proofs.YtajkdllakleakaaGreatDoor
