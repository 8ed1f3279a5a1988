/- Package maps: Put and Get refused. -/
import Derived.Test.YtahidclhplmkiaaGreatDoorM11
import Derived.Test.YtahidclhplmkiaaGreatDoorMIgq
namespace Go.Proofs.YtahidclhplmkiaaGreatDoor
open Go.RowKit Go.WideMaps
set_option linter.unusedVariables false
set_option linter.unusedSimpArgs false

set_option maxRecDepth 100000 in
set_option maxHeartbeats 4000000 in
/-- Put at what is no map. -/
theorem putBad_any (r : IRow) (k : Int) (t : ByteArray) (Av : Option Addr) (nv cv : Nat) (w : World) (hr : ROk r) (him : ∀ W, Below w.heap.size w W → Calls Tryz.prog 20 #[itV r] W fun e w' => e = .returned (.bool false) ∧ Below W.heap.size W w') :
    Calls Tryz.prog 6 #[itV r, .agg #[.int .i64 k, .string t], .slice Av nv cv] w fun e w' => e = .returned (.tuple #[itV z0, .int .i64 1]) ∧ Below w.heap.size w w' := by
  have HIM := Lib.hid him
  clear him
  obtain ⟨k', ak, tx, tr, nd, ps, ms, fn⟩ := r
  have sps := fun w a m => run_store Tryz.prog w a ps m hr.ps
  have sms := fun w a m => run_store Tryz.prog w a ms m hr.ms
  have sfn := fun w a m => run_store Tryz.prog w a fn m hr.fn
  have ops := hr.ps
  have oms := hr.ms
  have ofn := hr.fn
  dsimp only at ops oms ofn
  clear hr
  simp only [itV] at HIM ⊢
  go_enter Tryz.func6, Tryz.ntmps6
  obtain ⟨W0, hW0⟩ : ∃ W0, ((w.alloc (.cells #[.int .i64 k', .int .i64 ak, .string tx, .int .i64 tr, .int .i64 nd, ps, ms, fn] 30)).alloc (.cells #[.int .i64 k, .string t] 26)).alloc zblk = W0 := ⟨_, rfl⟩
  have hbx := Lib.hid (show Below w.heap.size w W0 from hW0 ▸ (((box1 w 30 #[.int .i64 k', .int .i64 ak, .string tx, .int .i64 tr, .int .i64 nd, ps, ms, fn]).alloc (by simp) (.cells #[.int .i64 k, .string t] 26)).alloc (by simp; omega) zblk))
  have y2 : W0.heap[w.heap.size + 2]? = some zblk := hW0 ▸ hp_new (by simp)
  have hz0 : W0.heap.size = w.heap.size + 3 := by subst hW0; simp
  have HC := Lib.hid (show ∀ W, Below W0.heap.size W0 W → Below w.heap.size w W ∧ W.heap[w.heap.size + 1 + 1]? = some zblk from fun W hW =>
    ⟨hbx.out.trans (hW.mono (by omega)), (hW.block _ (by omega)).trans y2⟩)
  clear y2
  have HW0 := Lib.hid hW0
  clear hW0
  go_wp2_with fail
  rw [HW0.out]
  refine (HIM.out W0 hbx.out).mono ?_
  rintro e w1 ⟨rfl, hb1⟩
  obtain ⟨hb, x1⟩ := HC.out _ hb1
  obtain ⟨d0, d1, d2, d3, d4, d5, d6, d7⟩ := blk8c x1
  obtain ⟨e0, e1, e2, e3, e4, e5, e6, e7⟩ := blk8f x1
  have HX1 := Lib.hid x1
  have HB1 := Lib.hid hb
  have hlt1 : w.heap.size + 1 + 1 < w1.heap.size := lt_of_block x1
  clear x1 hb hb1
  go_wp2
  obtain ⟨f0, f1, f2, f3, f4, f5, f6, f7⟩ := blk8c (st8 HX1.out (.int .i64 0) (.int .i64 0) (.string { data := #[] }) (.int .i64 0) (.int .i64 0) (.slice none 0 0) (.slice none 0 0) (.pointer none))
  refine bodyPost_ret (v := .tuple #[itV z0, .int .i64 1]) (w := set8 w1 (w.heap.size + 1 + 1) (.int .i64 0) (.int .i64 0) (.string { data := #[] }) (.int .i64 0) (.int .i64 0) (.slice none 0 0) (.slice none 0 0) (.pointer none)) ?_ rfl ⟨rfl, below_set8 HB1.out (by omega) ..⟩
  generalize set8 w1 (w.heap.size + 1 + 1) (.int .i64 0) (.int .i64 0) (.string { data := #[] }) (.int .i64 0) (.int .i64 0) (.slice none 0 0) (.slice none 0 0) (.pointer none) = W at *
  simp [results, Tryz.results6, go_sem, f0, f1, f2, f3, f4, f5, f6, f7, itV, z0]
set_option maxRecDepth 100000 in
set_option maxHeartbeats 4000000 in
/-- Get at what is no map. -/
theorem getBad_any (r : IRow) (k : Int) (t : ByteArray) (w : World) (hr : ROk r) (him : ∀ W, Below w.heap.size w W → Calls Tryz.prog 20 #[itV r] W fun e w' => e = .returned (.bool false) ∧ Below W.heap.size W w') :
    Calls Tryz.prog 17 #[itV r, .agg #[.int .i64 k, .string t]] w fun e w' => e = .returned (.tuple #[.slice none 0 0, .bool false]) ∧ Below w.heap.size w w' := by
  have HIM := Lib.hid him
  clear him
  obtain ⟨k', ak, tx, tr, nd, ps, ms, fn⟩ := r
  have sps := fun w a m => run_store Tryz.prog w a ps m hr.ps
  have sms := fun w a m => run_store Tryz.prog w a ms m hr.ms
  have sfn := fun w a m => run_store Tryz.prog w a fn m hr.fn
  have ops := hr.ps
  have oms := hr.ms
  have ofn := hr.fn
  dsimp only at ops oms ofn
  clear hr
  simp only [itV] at HIM ⊢
  have hbx := (box1 w 30 #[.int .i64 k', .int .i64 ak, .string tx, .int .i64 tr, .int .i64 nd, ps, ms, fn]).alloc (by simp) (.cells #[.int .i64 k, .string t] 26)
  have HBX := Lib.hid hbx
  clear hbx
  go_enter Tryz.func17, Tryz.ntmps17
  go_wp2_with fail
  refine (HIM.out _ HBX.out).mono ?_
  rintro e w1 ⟨rfl, hb1⟩
  have HB1 := Lib.hid (HBX.out.trans (hb1.mono HBX.out.size))
  clear hb1
  go_wp2
  go_ret2
  exact ⟨rfl, HB1.out⟩
end Go.Proofs.YtahidclhplmkiaaGreatDoor
