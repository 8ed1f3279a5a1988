/- The text 01 is no integer's; Put at a key that is not valid. -/
import Derived.Test.YtahidclhplmkiaaGreatDoorMMb
namespace Go.Proofs.YtahidclhplmkiaaGreatDoor
open Go.RowKit Go.WideMaps
set_option linter.unusedVariables false
set_option linter.unusedSimpArgs false

def d01 : ByteArray := { data := #[48, 49] }
set_option maxRecDepth 100000 in
theorem not01 (w : World) : Calls Tryz.prog 21 #[.agg #[.int .i64 3, .string d01]] w fun e w' => e = .returned (.bool false) ∧ Below w.heap.size w w' := by
  have HR := Lib.hid (fun W : World => (show Calls Tryz.prog 56 #[.string d01] W fun e w' => e = .returned (.tuple #[.string d1, .bool true]) ∧ Below W.heap.size W w' from by
    have := wholeRead_any [48, 49] W (by decide +kernel)
    rwa [show wholeR [48, 49] = ([49], true) by decide +kernel] at this))
  have hq := vfunc_nil 56
  go_enter Tryz.func21, Tryz.ntmps21
  go_wp2_with fail
  refine (isString_any _ _).mono ?_
  rintro e w' ⟨rfl, rfl⟩
  go_wp2_with fail
  refine (vreader3 _).mono ?_
  rintro e w' ⟨rfl, rfl⟩
  go_wp2_with fail
  refine (HR.out _).mono ?_
  rintro e w1 ⟨rfl, hb⟩
  have c0 := (hb.cell (p := ⟨w.heap.size, 1, none⟩) (by simp)).trans (show _ = some (Value.string d01) by simp)
  have HB := Lib.hid (below_to hb)
  clear hb
  go_wp2
  go_ret
  exact ⟨rB (by decide +kernel), HB.out⟩
set_option maxRecDepth 100000 in
set_option maxHeartbeats 4000000 in
/-- Put at a key that is not valid. -/
theorem putKey_any (r : IRow) (k : Int) (t : ByteArray) (Av : Option Addr) (nv cv : Nat) (w : World) (hr : ROk r) (him : ∀ W, Below w.heap.size w W → Calls Tryz.prog 20 #[itV r] W fun e w' => e = .returned (.bool true) ∧ Below W.heap.size W w') (hvd : ∀ W, Calls Tryz.prog 21 #[.agg #[.int .i64 k, .string t]] W fun e w' => e = .returned (.bool false) ∧ Below W.heap.size W w') :
    Calls Tryz.prog 6 #[itV r, .agg #[.int .i64 k, .string t], .slice Av nv cv] w fun e w' => e = .returned (.tuple #[itV z0, .int .i64 1]) ∧ Below w.heap.size w w' := by
  have HIM := Lib.hid him
  have HVD := Lib.hid hvd
  clear him hvd
  obtain ⟨k', ak, tx, tr, nd, ps, ms, fn⟩ := r
  have sps := fun w a m => run_store Tryz.prog w a ps m hr.ps
  have sms := fun w a m => run_store Tryz.prog w a ms m hr.ms
  have sfn := fun w a m => run_store Tryz.prog w a fn m hr.fn
  have ops := hr.ps
  have oms := hr.ms
  have ofn := hr.fn
  dsimp only at ops oms ofn
  clear hr
  simp only [itV] at HIM ⊢
  go_enter Tryz.func6, Tryz.ntmps6
  obtain ⟨W0, hW0⟩ : ∃ W0, ((w.alloc (.cells #[.int .i64 k', .int .i64 ak, .string tx, .int .i64 tr, .int .i64 nd, ps, ms, fn] 30)).alloc (.cells #[.int .i64 k, .string t] 26)).alloc zblk = W0 := ⟨_, rfl⟩
  have hbx := Lib.hid (show Below w.heap.size w W0 from hW0 ▸ (((box1 w 30 #[.int .i64 k', .int .i64 ak, .string tx, .int .i64 tr, .int .i64 nd, ps, ms, fn]).alloc (by simp) (.cells #[.int .i64 k, .string t] 26)).alloc (by simp; omega) zblk))
  have y2 : W0.heap[w.heap.size + 2]? = some zblk := hW0 ▸ hp_new (by simp)
  have y1 : W0.heap[w.heap.size + 1]? = some (.cells #[.int .i64 k, .string t] 26) := hW0 ▸ hp_past (hp_new (by simp))
  have hz0 : W0.heap.size = w.heap.size + 3 := by subst hW0; simp
  have HC := Lib.hid (show ∀ W, Below W0.heap.size W0 W → Below w.heap.size w W ∧ W.heap[w.heap.size + 1 + 1]? = some zblk ∧ W.heap[w.heap.size + 1]? = some (.cells #[.int .i64 k, .string t] 26) from fun W hW =>
    ⟨hbx.out.trans (hW.mono (by omega)), (hW.block _ (by omega)).trans y2, (hW.block _ (by omega)).trans y1⟩)
  clear y2 y1
  have HW0 := Lib.hid hW0
  clear hW0
  go_wp2_with fail
  rw [HW0.out]
  refine (HIM.out W0 hbx.out).mono ?_
  rintro e w1 ⟨rfl, hb1⟩
  have HBW := Lib.hid hb1
  obtain ⟨_, _, y1⟩ := HC.out _ hb1
  obtain ⟨k0, k1⟩ := blk2c y1
  clear hb1
  go_wp2_with fail
  refine (HVD.out _).mono ?_
  rintro e w2 ⟨rfl, hb2⟩
  obtain ⟨hb, x1, _⟩ := HC.out _ (HBW.out.trans (hb2.mono HBW.out.size))
  obtain ⟨d0, d1, d2, d3, d4, d5, d6, d7⟩ := blk8c x1
  obtain ⟨e0, e1, e2, e3, e4, e5, e6, e7⟩ := blk8f x1
  have HX1 := Lib.hid x1
  have HB1 := Lib.hid hb
  have hlt1 : w.heap.size + 1 + 1 < w2.heap.size := lt_of_block x1
  clear x1 hb hb2 y1 k0 k1
  go_wp2
  obtain ⟨f0, f1, f2, f3, f4, f5, f6, f7⟩ := blk8c (st8 HX1.out (.int .i64 0) (.int .i64 0) (.string { data := #[] }) (.int .i64 0) (.int .i64 0) (.slice none 0 0) (.slice none 0 0) (.pointer none))
  refine bodyPost_ret (v := .tuple #[itV z0, .int .i64 1]) (w := set8 w2 (w.heap.size + 1 + 1) (.int .i64 0) (.int .i64 0) (.string { data := #[] }) (.int .i64 0) (.int .i64 0) (.slice none 0 0) (.slice none 0 0) (.pointer none)) ?_ rfl ⟨rfl, below_set8 HB1.out (by omega) ..⟩
  generalize set8 w2 (w.heap.size + 1 + 1) (.int .i64 0) (.int .i64 0) (.string { data := #[] }) (.int .i64 0) (.int .i64 0) (.slice none 0 0) (.slice none 0 0) (.pointer none) = W at *
  simp [results, Tryz.results6, go_sem, f0, f1, f2, f3, f4, f5, f6, f7, itV, z0]
end Go.Proofs.YtahidclhplmkiaaGreatDoor
