/- Package maps: Delete of a member. -/
import Derived.Test.YtahidclhplmkiaaGreatDoorMImd
import Derived.Test.YtahidclhplmkiaaGreatDoorM11
namespace Go.Proofs.YtahidclhplmkiaaGreatDoor
open Go.RowKit
set_option linter.unusedVariables false
set_option linter.unusedSimpArgs false

set_option maxRecDepth 100000 in
set_option maxHeartbeats 4000000 in
/-- A refusal. -/
theorem deleteBad_any (r : IRow) (i : Int) (A : Option Addr) (m c : Nat) (M : List Value) (w : World) (hr : ROk r) (hA : r.k = 3 → r.ms = .slice A m c) (hi : i64B i) (hm : m ≤ maxLen) (hne : chkE r.k i 0 m ≠ 0) :
    Calls Tryz.prog 19 #[itV r, .int .i64 i] w (AOP (chkE r.k i 0 m) M w) := by
  have hchk := fun W => check_any r i 0 A m c W hr hA hi ⟨by omega, by omega⟩ hm
  have HNE := Lib.hid hne
  have t1 : (chkE r.k i 0 m != 0) = true := by simpa using hne
  generalize chkE r.k i 0 m = E at *
  have HCK := Lib.hid hchk
  clear hchk hne hA
  obtain ⟨k', ak, tx, tr, nd, ps, ms, fn⟩ := r
  have sps := fun w a m => run_store Tryz.prog w a ps m hr.ps
  have sms := fun w a m => run_store Tryz.prog w a ms m hr.ms
  have sfn := fun w a m => run_store Tryz.prog w a fn m hr.fn
  have ops := hr.ps
  have oms := hr.ms
  have ofn := hr.fn
  dsimp only at ops oms ofn
  clear hr hm
  simp only [itV] at HCK ⊢
  go_enter Tryz.func19, Tryz.ntmps19
  obtain ⟨W0, hW0⟩ : ∃ W0, (w.alloc (.cells #[.int .i64 k', .int .i64 ak, .string tx, .int .i64 tr, .int .i64 nd, ps, ms, fn] 30)).alloc zblk = W0 := ⟨_, rfl⟩
  have hbx := Lib.hid (show Below w.heap.size w W0 from hW0 ▸ ((box1 w 30 #[.int .i64 k', .int .i64 ak, .string tx, .int .i64 tr, .int .i64 nd, ps, ms, fn]).alloc (by simp) zblk))
  have y1 : W0.heap[w.heap.size + 1]? = some zblk := hW0 ▸ hp_new (by simp)
  have hz0 : W0.heap.size = w.heap.size + 2 := by subst hW0; simp
  have HC := Lib.hid (show ∀ W, Below W0.heap.size W0 W → Below w.heap.size w W ∧ W.heap[w.heap.size + 1]? = some zblk from fun W hW =>
    ⟨hbx.out.trans (hW.mono (by omega)), (hW.block _ (by omega)).trans y1⟩)
  clear y1
  have HW0 := Lib.hid hW0
  clear hW0
  go_wp2_with fail
  rw [HW0.out]
  refine (HCK.out W0).mono ?_
  rintro e w1 ⟨rfl, hb1⟩
  obtain ⟨hb, x1⟩ := HC.out _ hb1
  obtain ⟨d0, d1, d2, d3, d4, d5, d6, d7⟩ := blk8c x1
  obtain ⟨e0, e1, e2, e3, e4, e5, e6, e7⟩ := blk8f x1
  have HX1 := Lib.hid x1
  have HB1 := Lib.hid hb
  have hlt1 : w.heap.size + 1 < w1.heap.size := lt_of_block x1
  clear x1 hb hb1
  go_wp2
  obtain ⟨f0, f1, f2, f3, f4, f5, f6, f7⟩ := blk8c (st8 HX1.out (.int .i64 0) (.int .i64 0) (.string { data := #[] }) (.int .i64 0) (.int .i64 0) (.slice none 0 0) (.slice none 0 0) (.pointer none))
  refine bodyPost_ret (v := .tuple #[itV z0, .int .i64 E]) (w := set8 w1 (w.heap.size + 1) (.int .i64 0) (.int .i64 0) (.string { data := #[] }) (.int .i64 0) (.int .i64 0) (.slice none 0 0) (.slice none 0 0) (.pointer none)) ?_ rfl ⟨z0, E, rfl, ⟨rfl, by rw [if_neg HNE.out]⟩, below_set8 HB1.out (by omega) ..⟩
  generalize set8 w1 (w.heap.size + 1) (.int .i64 0) (.int .i64 0) (.string { data := #[] }) (.int .i64 0) (.int .i64 0) (.slice none 0 0) (.slice none 0 0) (.pointer none) = W at *
  simp [results, Tryz.results19, go_sem, f0, f1, f2, f3, f4, f5, f6, f7, itV, z0]
set_option maxRecDepth 100000 in
set_option maxHeartbeats 4000000 in
/-- Delete from an array, at a place that there is. -/
theorem deleteAt_any (r : IRow) (ms : List Value) (p : Nat) (w : World) (h : RdM w ms r.ms) (hr : ROk r) (hk : r.k = 3) (h1 : ∀ m, m ∈ ms → m.oneCell' = true) (hp : p < ms.length) (hn : ms.length ≤ 65536) :
    Calls Tryz.prog 19 #[itV r, .int .i64 ((p : Int) + 1)] w (AOP 0 (cutL ms p) w) := by
  have H := Lib.hid h
  have H1 := Lib.hid h1
  have HP := Lib.hid hp
  obtain ⟨A, c, hA, hm⟩ := h.form
  have hchk := fun W => check_any r ((p : Int) + 1) 0 A ms.length c W hr (fun _ => hA) ⟨by omega, by omega⟩ ⟨by omega, by omega⟩ hm
  rw [hk, chkE_ok (by omega) (by omega)] at hchk
  have HCK := Lib.hid hchk
  clear h h1 hchk hp
  obtain ⟨k', ak, tx, tr, nd, ps, msv, fn⟩ := r
  dsimp only at hA hk
  subst hA
  subst hk
  have sps := fun w a m => run_store Tryz.prog w a ps m hr.ps
  have sfn := fun w a m => run_store Tryz.prog w a fn m hr.fn
  have ops := hr.ps
  have ofn := hr.fn
  dsimp only at ops ofn
  clear hr hm
  generalize hl : ms.length = m at *
  have HM := Lib.hid hl
  clear hl
  have hp' : p < m := HP.out
  simp only [itV] at HCK ⊢
  go_enter Tryz.func19, Tryz.ntmps19
  obtain ⟨W0, hW0⟩ : ∃ W0, (w.alloc (.cells #[.int .i64 3, .int .i64 ak, .string tx, .int .i64 tr, .int .i64 nd, ps, .slice A m c, fn] 30)).alloc zblk = W0 := ⟨_, rfl⟩
  have hbx := Lib.hid (show Below w.heap.size w W0 from hW0 ▸ ((box1 w 30 #[.int .i64 3, .int .i64 ak, .string tx, .int .i64 tr, .int .i64 nd, ps, .slice A m c, fn]).alloc (by simp) zblk))
  have y0 : W0.heap[w.heap.size]? = some (.cells #[.int .i64 3, .int .i64 ak, .string tx, .int .i64 tr, .int .i64 nd, ps, .slice A m c, fn] 30) := hW0 ▸ hp_past (hp_new rfl)
  have y1 : W0.heap[w.heap.size + 1]? = some zblk := hW0 ▸ hp_new (by simp)
  have HC := Lib.hid (show ∀ W, Below (w.heap.size + 2) W0 W → Below w.heap.size w W ∧ W.cell? ⟨w.heap.size, 6, none⟩ = some (.slice A m c) ∧ W.heap[w.heap.size + 1]? = some zblk from fun W hW =>
    ⟨hbx.out.trans (hW.mono (by omega)), (blk8c ((hW.block _ (by omega)).trans y0)).2.2.2.2.2.2.1, (hW.block _ (by omega)).trans y1⟩)
  clear y0 y1
  have hz0 : W0.heap.size = w.heap.size + 2 := by subst hW0; simp
  have HW0 := Lib.hid hW0
  clear hW0
  go_wp2_with fail
  rw [HW0.out]
  refine (HCK.out W0).mono ?_
  rintro e w1 ⟨rfl, hb1⟩
  have HB1 := Lib.hid (hb1.mono (show w.heap.size + 2 ≤ _ by omega))
  have hw1 := (show w.heap.size + 2 ≤ w1.heap.size by have := HB1.out.size; omega)
  clear hb1
  obtain ⟨_, b6, _⟩ := HC.out _ HB1.out
  go_wp2_with fail
  refine (cloneM_any ms _ w1 (RdRows.below H.out (HC.out _ HB1.out).1) (by rw [HM.out]; omega) H1.out).mono ?_
  rintro e w3 ⟨v3, rfl, ho3, hb3⟩
  have HB3 := Lib.hid (HB1.out.trans (hb3.mono hw1))
  have hw13 := hb3.size
  obtain ⟨A3, c3, rfl, _⟩ := ho3.form
  rw [HM.out] at ho3 ⊢
  have HO3 := Lib.hid ho3
  clear hb3 ho3 b6
  obtain ⟨g, rfl⟩ : ∃ g, A3 = some ⟨g, 0, none⟩ := by
    have h2 := HO3.out
    unfold OwnM at h2
    rw [HM.out] at h2
    rcases h2.2 with ⟨e, _⟩ | ⟨g, cap, cur, e, _⟩
    · cases e; have := HP.out; omega
    · cases e; exact ⟨g, rfl⟩
  have hgl := World.ownsRow.lt HO3.out g rfl
  have hL : (cutL ms p).length = m - 1 := by rw [cutL_len ms p (by rw [HM.out]; exact hp'), HM.out]
  have HD := Lib.hid (deleteM_any ms g m c3 p w1.heap.size w3 HO3.out HM.out hp' H1.out (by omega))
  go_wp2_with fail
  refine HD.out.mono ?_
  rintro e w4 ⟨hb4, rfl, hr4⟩
  have HB4 := Lib.hid (HB3.out.trans (hb4.mono hw1))
  have HR4 := Lib.hid hr4
  clear hr4 hb4 HD
  obtain ⟨hbw4, _, x6⟩ := HC.out _ HB4.out
  obtain ⟨d0, d1, d2, d3, d4, d5, d6, d7⟩ := blk8c x6
  obtain ⟨e0, e1, e2, e3, e4, e5, e6, e7⟩ := blk8f x6
  have HX6 := Lib.hid x6
  have HB6 := Lib.hid hbw4
  have hlt6 : w.heap.size + 1 < w4.heap.size := lt_of_block x6
  clear x6 hbw4
  go_wp2
  obtain ⟨f0, f1, f2, f3, f4, f5, f6, f7⟩ := blk8c (st8 HX6.out (.int .i64 3) (.int .i64 0) (.string { data := #[] }) (.int .i64 0) (.int .i64 0) (.slice none 0 0) (.slice (some ⟨g, 0, none⟩) (m - 1) c3) (.pointer none))
  refine bodyPost_ret (v := .tuple #[itV (aR (.slice (some ⟨g, 0, none⟩) (m - 1) c3)), .int .i64 0]) (w := set8 w4 (w.heap.size + 1) (.int .i64 3) (.int .i64 0) (.string { data := #[] }) (.int .i64 0) (.int .i64 0) (.slice none 0 0) (.slice (some ⟨g, 0, none⟩) (m - 1) c3) (.pointer none)) ?_ rfl ⟨aR (.slice (some ⟨g, 0, none⟩) (m - 1) c3), 0, rfl, ⟨rfl, ?_⟩, below_set8 HB6.out (by omega) ..⟩
  · generalize set8 w4 (w.heap.size + 1) (.int .i64 3) (.int .i64 0) (.string { data := #[] }) (.int .i64 0) (.int .i64 0) (.slice none 0 0) (.slice (some ⟨g, 0, none⟩) (m - 1) c3) (.pointer none) = W at *
    simp [results, Tryz.results19, go_sem, f0, f1, f2, f3, f4, f5, f6, f7, itV, aR]
  · rw [if_pos rfl]
    refine ⟨_, rfl, RdRows.set8 HR4.out (fun b off n c e => ?_) ..⟩
    cases e
    omega
end Go.Proofs.YtahidclhplmkiaaGreatDoor
