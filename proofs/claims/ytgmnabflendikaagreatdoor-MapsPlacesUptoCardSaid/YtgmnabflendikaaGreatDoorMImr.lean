/- chiselref18: Delete of a member. -/
import Derived.Test.YtgmnabflendikaaGreatDoorM4
import Derived.Test.YtgmnabflendikaaGreatDoorMImI
import Derived.Test.YtgmnabflendikaaGreatDoorM8
import Derived.Test.YtgmnabflendikaaGreatDoorM9
namespace Go.Proofs.YtgmnabflendikaaGreatDoor
open Go.RowKit
set_option linter.unusedVariables false
set_option linter.unusedSimpArgs false

set_option maxRecDepth 100000 in
set_option maxHeartbeats 4000000 in
/-- A refusal. -/
theorem refDeleteBad_any (r : IRow) (i : Int) (ms M : List Value) (w : World) (hr : ROk r) (h : r.k = 3 → RdM w ms r.ms) (hi : i64B i) (hne : chkE r.k i 0 ms.length ≠ 0) :
    Calls Tryz.prog 12 #[itV r, .int .i64 i] w (AOP (chkE r.k i 0 ms.length) M w) := by
  have HAT := Lib.hid (fun W (hW : Below w.heap.size w W) => refAt_any r i ms W hr (fun hk => RdRows.below (h hk) hW) hi)
  have HNE := Lib.hid hne
  have t1 : (chkE r.k i 0 ms.length != 0) = true := by simpa using hne
  have hV : atV r.k i ms.length ms = .slice none 0 0 := by unfold atV; rw [if_neg hne]
  unfold AtPost at HAT
  rw [hV] at HAT
  generalize chkE r.k i 0 ms.length = E at *
  clear hne h hV
  obtain ⟨k', ak, tx, tr, nd, ps, msv, fn⟩ := r
  have sps := fun w a m => run_store Tryz.prog w a ps m hr.ps
  have sms := fun w a m => run_store Tryz.prog w a msv m hr.ms
  have sfn := fun w a m => run_store Tryz.prog w a fn m hr.fn
  have ops := hr.ps
  have oms := hr.ms
  have ofn := hr.fn
  dsimp only at ops oms ofn
  clear hr
  simp only [itV] at HAT ⊢
  go_enter Tryz.func12, Tryz.ntmps12
  obtain ⟨W0, hW0⟩ : ∃ W0, (w.alloc (.cells #[.int .i64 k', .int .i64 ak, .string tx, .int .i64 tr, .int .i64 nd, ps, msv, fn] 28)).alloc zblk = W0 := ⟨_, rfl⟩
  have hbx := Lib.hid (show Below w.heap.size w W0 from hW0 ▸ ((box1 w 28 #[.int .i64 k', .int .i64 ak, .string tx, .int .i64 tr, .int .i64 nd, ps, msv, fn]).alloc (by simp) zblk))
  have y1 : W0.heap[w.heap.size + 1]? = some zblk := hW0 ▸ hp_new (by simp)
  have hz0 : W0.heap.size = w.heap.size + 2 := by subst hW0; simp
  have HC := Lib.hid (show ∀ W, Below W0.heap.size W0 W → Below w.heap.size w W ∧ W.heap[w.heap.size + 1]? = some zblk from fun W hW =>
    ⟨hbx.out.trans (hW.mono (by omega)), (hW.block _ (by omega)).trans y1⟩)
  clear y1
  have HW0 := Lib.hid hW0
  clear hW0
  go_wp2_with fail
  rw [HW0.out]
  refine (HAT.out W0 hbx.out).mono ?_
  rintro e w1 ⟨rfl, hb1⟩
  obtain ⟨hb, x1⟩ := HC.out _ hb1
  obtain ⟨d0, d1, d2, d3, d4, d5, d6, d7⟩ := blk8c x1
  obtain ⟨e0, e1, e2, e3, e4, e5, e6, e7⟩ := blk8f x1
  have HX1 := Lib.hid x1
  have HB1 := Lib.hid hb
  have hlt1 : w.heap.size + 1 < w1.heap.size := lt_of_block x1
  clear x1 hb hb1
  go_wp2
  obtain ⟨f0, f1, f2, f3, f4, f5, f6, f7⟩ := blk8c (st8 HX1.out (.int .i64 0) (.int .i64 0) (.string { data := #[] }) (.int .i64 0) (.int .i64 0) (.slice none 0 0) (.slice none 0 0) (.pointer none))
  refine bodyPost_ret (v := .tuple #[itV z0, .int .i64 E]) (w := set8 w1 (w.heap.size + 1) (.int .i64 0) (.int .i64 0) (.string { data := #[] }) (.int .i64 0) (.int .i64 0) (.slice none 0 0) (.slice none 0 0) (.pointer none)) ?_ rfl ⟨z0, E, rfl, ⟨rfl, by rw [if_neg HNE.out]⟩, below_set8 HB1.out (by omega) ..⟩
  generalize set8 w1 (w.heap.size + 1) (.int .i64 0) (.int .i64 0) (.string { data := #[] }) (.int .i64 0) (.int .i64 0) (.slice none 0 0) (.slice none 0 0) (.pointer none) = W at *
  simp [results, Tryz.results12, go_sem, f0, f1, f2, f3, f4, f5, f6, f7, itV, z0]
set_option maxRecDepth 100000 in
set_option maxHeartbeats 4000000 in
/-- Delete from an array, at a place that there is. -/
theorem refDeleteAt_any (r : IRow) (ms : List Value) (p : Nat) (w : World) (h : RdM w ms r.ms) (hr : ROk r) (hk : r.k = 3) (h1 : ∀ m, m ∈ ms → m.oneCell' = true) (hp : p < ms.length) (hn : ms.length ≤ 65536) :
    Calls Tryz.prog 12 #[itV r, .int .i64 ((p : Int) + 1)] w (AOP 0 (cutL ms p) w) := by
  have H1 := Lib.hid h1
  have HP := Lib.hid hp
  obtain ⟨A, c, hA, hm⟩ := h.form
  have hat := fun W (hW : Below w.heap.size w W) => refAt_any r ((p : Int) + 1) ms W hr (fun _ => RdRows.below h hW) ⟨by omega, by omega⟩
  unfold AtPost at hat
  rw [hk, chkE_ok (by omega) (by omega)] at hat
  generalize atV 3 ((p : Int) + 1) ms.length ms = V at hat
  have HAT := Lib.hid hat
  obtain ⟨k', ak, tx, tr, nd, ps, msv, fn⟩ := r
  dsimp only at hA hk h
  subst hA
  subst hk
  have H := Lib.hid h
  clear h h1 hat hp
  have sps := fun w a m => run_store Tryz.prog w a ps m hr.ps
  have sfn := fun w a m => run_store Tryz.prog w a fn m hr.fn
  have ops := hr.ps
  have ofn := hr.fn
  dsimp only at ops ofn
  clear hr hm
  generalize hl : ms.length = m at *
  have HM := Lib.hid hl
  clear hl
  have hp' := HP.out
  obtain ⟨b, off, rfl, hmc, hcx⟩ := H.out.at (by omega)
  unfold maxLen at hcx
  have hpc : (p : Int) ≤ (c : Int) := by omega
  have hp0 : (0 : Int) ≤ (p : Int) + 1 := by omega
  have hpm : (p : Int) + 1 ≤ (m : Int) := by omega
  simp only [itV] at HAT ⊢
  obtain ⟨D, hD, hRD⟩ : ∃ D : Option Addr, (if c = p + 1 then (some ⟨b, off, none⟩ : Option Addr) else some ⟨b, off + (p + 1), none⟩) = D ∧ Hid (∀ W, RdM W ms (.slice (some ⟨b, off, none⟩) m c) → RdM W (ms.drop (p + 1)) (.slice D (m - (p + 1)) (c - (p + 1)))) :=
    ⟨_, rfl, fun W hW => hW.drop (by omega)⟩
  · skip
    go_enter Tryz.func12, Tryz.ntmps12
    obtain ⟨W0, hW0⟩ : ∃ W0, (w.alloc (.cells #[.int .i64 3, .int .i64 ak, .string tx, .int .i64 tr, .int .i64 nd, ps, .slice (some ⟨b, off, none⟩) m c, fn] 28)).alloc zblk = W0 := ⟨_, rfl⟩
    have hbx := Lib.hid (show Below w.heap.size w W0 from hW0 ▸ ((box1 w 28 #[.int .i64 3, .int .i64 ak, .string tx, .int .i64 tr, .int .i64 nd, ps, .slice (some ⟨b, off, none⟩) m c, fn]).alloc (by simp) zblk))
    have y0 : W0.heap[w.heap.size]? = some (.cells #[.int .i64 3, .int .i64 ak, .string tx, .int .i64 tr, .int .i64 nd, ps, .slice (some ⟨b, off, none⟩) m c, fn] 28) := hW0 ▸ hp_past (hp_new rfl)
    have y1 : W0.heap[w.heap.size + 1]? = some zblk := hW0 ▸ hp_new (by simp)
    have HC := Lib.hid (show ∀ W, Below (w.heap.size + 2) W0 W → Below w.heap.size w W ∧ W.cell? ⟨w.heap.size, 6, none⟩ = some (.slice (some ⟨b, off, none⟩) m c) ∧ W.heap[w.heap.size + 1]? = some zblk from fun W hW =>
      ⟨hbx.out.trans (hW.mono (by omega)), (blk8c ((hW.block _ (by omega)).trans y0)).2.2.2.2.2.2.1, (hW.block _ (by omega)).trans y1⟩)
    clear y0 y1
    have hz0 : W0.heap.size = w.heap.size + 2 := by subst hW0; simp
    have HW0 := Lib.hid hW0
    clear hW0
    go_wp2_with fail
    rw [HW0.out]
    refine (HAT.out W0 hbx.out).mono ?_
    rintro e w1 ⟨rfl, hb1⟩
    have HB1 := Lib.hid (hb1.mono (show w.heap.size + 2 ≤ _ by omega))
    have hw1 := (show w.heap.size + 2 ≤ w1.heap.size by have := HB1.out.size; omega)
    clear hb1
    obtain ⟨hbw1, b6, _⟩ := HC.out _ HB1.out
    have HR1 := Lib.hid (RdRows.below H.out hbw1)
    clear hbw1
    go_wp2_with (at_builtin; refine appM w1.heap.size rfl (.tmp 19) (.tmp 24) rfl _ [] (ms.take p) rfl _ rfl (RdM.take HR1.out (by omega)) (fun q hq => H1.out q (List.mem_of_mem_take hq)) (World.ownsRow_nil _ _ _ _) (Nat.le_refl _) (by have := HM.out; simp; omega) ?_)
    intro v2 w2 ho2 hg2
    have hb2 := belG (B := w1.heap.size) (w := w1) (Below.refl _ _) (Nat.le_refl _) hg2 (World.ownsRow_nil w1 w1.heap.size 29 1) (Nat.le_refl _)
    have HO2 := Lib.hid ho2
    have HB2 := Lib.hid hb2
    have hw2 : w1.heap.size ≤ w2.heap.size := hb2.size
    have HR2 := Lib.hid (RdRows.below HR1.out hb2)
    have HC2 := Lib.hid (HB1.out.trans (hb2.mono hw1))
    clear b6
    obtain ⟨_, b6, _⟩ := HC.out _ HC2.out
    clear ho2 hg2 hb2 HR1
    go_wp2_with (at_builtin; refine appM w1.heap.size rfl (.tmp 26) (.tmp 30) rfl _ (ms.take p) (ms.drop (p + 1)) rfl _ rfl (hRD.out _ HR2.out) (fun q hq => H1.out q (List.mem_of_mem_drop hq)) HO2.out hw2 (by have := HM.out; simp; omega) ?_)
    intro v3 w3 ho3 hg3
    have hb3 := belG HB2.out hw2 hg3 HO2.out (Nat.le_refl _)
    obtain ⟨A3, c3, rfl, _⟩ := OwnM.form ho3
    have hL3 : (ms.take p ++ ms.drop (p + 1)).length = m - 1 := by have := HM.out; simp; omega
    have HO3 : Hid (OwnM w3 w1.heap.size (.slice A3 (m - 1) c3) (cutL ms p)) := Lib.hid (by rw [hL3] at ho3; exact ho3)
    rw [hL3]
    have HC3 := Lib.hid (HB1.out.trans (hb3.mono hw1))
    have hw3 := hb3.size
    clear ho3 hg3 hb3 b6 HR2 HO2 HC2
    go_wp2_with fail
    refine (arrayOf_any A3 (m - 1) c3 w3).mono ?_
    rintro e w4 ⟨rfl, hb4⟩
    have HC4 := Lib.hid (HC3.out.trans (hb4.mono (by omega)))
    have HO4 := Lib.hid (ownB HO3.out hb4)
    obtain ⟨hbw4, _, x6⟩ := HC.out _ HC4.out
    obtain ⟨d0, d1, d2, d3, d4, d5, d6, d7⟩ := blk8c x6
    obtain ⟨e0, e1, e2, e3, e4, e5, e6, e7⟩ := blk8f x6
    have HX6 := Lib.hid x6
    have HB6 := Lib.hid hbw4
    have hlt6 : w.heap.size + 1 < w4.heap.size := lt_of_block x6
    clear x6 hbw4 hb4
    simp only [itV, aR]
    go_wp2
    obtain ⟨f0, f1, f2, f3, f4, f5, f6, f7⟩ := blk8c (st8 HX6.out (.int .i64 3) (.int .i64 0) (.string { data := #[] }) (.int .i64 0) (.int .i64 0) (.slice none 0 0) (.slice A3 (m - 1) c3) (.pointer none))
    refine bodyPost_ret (v := .tuple #[itV (aR (.slice A3 (m - 1) c3)), .int .i64 0]) (w := set8 w4 (w.heap.size + 1) (.int .i64 3) (.int .i64 0) (.string { data := #[] }) (.int .i64 0) (.int .i64 0) (.slice none 0 0) (.slice A3 (m - 1) c3) (.pointer none)) ?_ rfl ⟨aR (.slice A3 (m - 1) c3), 0, rfl, ⟨rfl, ?_⟩, below_set8 HB6.out (by omega) ..⟩
    · generalize set8 w4 (w.heap.size + 1) (.int .i64 3) (.int .i64 0) (.string { data := #[] }) (.int .i64 0) (.int .i64 0) (.slice none 0 0) (.slice A3 (m - 1) c3) (.pointer none) = W at *
      simp [results, Tryz.results12, go_sem, f0, f1, f2, f3, f4, f5, f6, f7, itV, aR]
    · rw [if_pos rfl]
      exact ⟨_, rfl, (OwnM.set8 HO4.out (X := w.heap.size + 1) (by omega) (.int .i64 3) (.int .i64 0) (.string { data := #[] }) (.int .i64 0) (.int .i64 0) (.slice none 0 0) (.slice A3 (m - 1) c3) (.pointer none)).reads (by have := cutL_len ms p (by rw [HM.out]; exact HP.out); rw [this, HM.out]; simp only [maxLen]; omega)⟩
end Go.Proofs.YtgmnabflendikaaGreatDoor
