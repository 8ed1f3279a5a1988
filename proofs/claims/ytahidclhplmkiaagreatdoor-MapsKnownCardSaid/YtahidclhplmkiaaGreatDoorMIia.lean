/- Package maps: Insert at the end of an array. -/
import Derived.Test.YtahidclhplmkiaaGreatDoorM4
import Derived.Test.YtahidclhplmkiaaGreatDoorMIgq
import Derived.Test.YtahidclhplmkiaaGreatDoorMIm
namespace Go.Proofs.YtahidclhplmkiaaGreatDoor
open Go.RowKit
set_option linter.unusedVariables false
set_option linter.unusedSimpArgs false

theorem rdM_one {W : World} {X c : Nat} {x : Value} (hlt : X < W.heap.size) (h : W.cell? ⟨X, 0, none⟩ = some x) (hc : 1 ≤ c ∧ c ≤ maxLen) : RdM W [x] (.slice (some ⟨X, 0, none⟩) 1 c) := by
  refine ⟨some ⟨X, 0, none⟩, c, rfl, ⟨fun e => (by cases e), hc.1, hc.2⟩, fun _ => ⟨X, 0, rfl, hlt, fun j hj i hi => ?_⟩⟩
  obtain rfl : j = 0 := by simp at hj; omega
  obtain rfl : i = 0 := by omega
  simpa using h
/-- Insert's answer. -/
def InaP (ms : List Value) (w : World) (e : Ending) (w' : World) : Prop := Below w.heap.size w w' ∧ ∃ u, e = .returned (.tuple #[itV (aR u), .int .i64 0]) ∧ RdM w' ms u
set_option maxRecDepth 100000 in
set_option maxHeartbeats 4000000 in
theorem insertEnd_any (r : IRow) (ms : List Value) (Av : Option Addr) (nv cv : Nat) (w : World) {d n b : Nat} {f : List IRow} (h : RdM w ms r.ms) (hr : ROk r) (hk : r.k = 3) (h1 : ∀ m, m ∈ ms → m.oneCell' = true) (hn : ms.length < 65536) (hnv : nv ≤ 65536)
    (hs : MemS w d (ms ++ [.slice Av nv cv]) n b f) (ho : ovB (1 + n) b = false) :
    Calls Tryz.prog 8 #[itV r, .int .i64 ((ms.length : Int) + 1), .slice Av nv cv] w (InaP (ms ++ [.slice Av nv cv]) w) := by
  have H := Lib.hid h
  have H1 := Lib.hid h1
  have HS := Lib.hid hs
  have HOV := Lib.hid ho
  obtain ⟨A, c, hA, hm⟩ := h.form
  have hchk := fun W => check_any r ((ms.length : Int) + 1) 1 A ms.length c W hr (fun _ => hA) ⟨by omega, by omega⟩ ⟨by omega, by omega⟩ hm
  rw [hk, chkE_ok (by omega) (by omega)] at hchk
  have HCK := Lib.hid hchk
  clear h h1 hs ho hchk
  obtain ⟨k', ak, tx, tr, nd, ps, msv, fn⟩ := r
  dsimp only at hA hk
  subst hA
  subst hk
  have sps := fun w a m => run_store Tryz.prog w a ps m hr.ps
  have sfn := fun w a m => run_store Tryz.prog w a fn m hr.fn
  have ops := hr.ps
  have ofn := hr.fn
  dsimp only at ops ofn
  clear hr hm
  generalize hl : ms.length = m at *
  have HM := Lib.hid hl
  clear hl
  simp only [itV] at HCK ⊢
  go_enter Tryz.func8, Tryz.ntmps8
  obtain ⟨W0, hW0⟩ : ∃ W0, (w.alloc (.cells #[.int .i64 3, .int .i64 ak, .string tx, .int .i64 tr, .int .i64 nd, ps, .slice A m c, fn] 30)).alloc zblk = W0 := ⟨_, rfl⟩
  have hbx := Lib.hid (show Below w.heap.size w W0 from hW0 ▸ ((box1 w 30 #[.int .i64 3, .int .i64 ak, .string tx, .int .i64 tr, .int .i64 nd, ps, .slice A m c, fn]).alloc (by simp) zblk))
  have y0 : W0.heap[w.heap.size]? = some (.cells #[.int .i64 3, .int .i64 ak, .string tx, .int .i64 tr, .int .i64 nd, ps, .slice A m c, fn] 30) := hW0 ▸ hp_past (hp_new rfl)
  have y1 : W0.heap[w.heap.size + 1]? = some zblk := hW0 ▸ hp_new (by simp)
  have HC := Lib.hid (show ∀ W, Below (w.heap.size + 2) W0 W → Below w.heap.size w W ∧ W.cell? ⟨w.heap.size, 6, none⟩ = some (.slice A m c) ∧ W.heap[w.heap.size + 1]? = some zblk from fun W hW =>
    ⟨hbx.out.trans (hW.mono (by omega)), (blk8c ((hW.block _ (by omega)).trans y0)).2.2.2.2.2.2.1, (hW.block _ (by omega)).trans y1⟩)
  clear y0 y1
  have hz0 : W0.heap.size = w.heap.size + 2 := by subst hW0; simp
  have HW0 := Lib.hid hW0
  clear hW0
  go_wp2_with fail
  rw [HW0.out]
  refine (HCK.out W0).mono ?_
  rintro e w1 ⟨rfl, hb1⟩
  have HB1 := Lib.hid (hb1.mono (show w.heap.size + 2 ≤ _ by omega))
  have hw1 := (show w.heap.size + 2 ≤ w1.heap.size by have := HB1.out.size; omega)
  clear hb1
  obtain ⟨_, b6, _⟩ := HC.out _ HB1.out
  have t1 : decide ((65536 : Int) < (nv : Int)) = false := by simp; omega
  have t2 : decide ((65536 : Int) ≤ (m : Int)) = false := by simp; omega
  go_wp2_with fail
  refine (cloneM_any ms _ w1 (RdRows.below H.out (HC.out _ HB1.out).1) (by rw [HM.out]; omega) H1.out).mono ?_
  rintro e w3 ⟨v3, rfl, ho3, hb3⟩
  have HB3 := Lib.hid (HB1.out.trans (hb3.mono hw1))
  have hw13 := hb3.size
  obtain ⟨A3, c3, rfl, _⟩ := ho3.form
  rw [HM.out] at ho3 ⊢
  have HO3 := Lib.hid ho3
  clear hb3 ho3 b6
  go_wp2_with fail
  have hbp := box1 w3 22 #[.slice Av nv cv]
  have hI := insEnd_any ms (.slice Av nv cv) (.slice A3 m c3) w3.heap.size w1.heap.size (w3.alloc (.cells #[.slice Av nv cv] 22)) (ownB HO3.out hbp) (by simp; omega) (rdM_one (by simp) (by simp) (by simp [maxLen])) rfl (by rw [HM.out]; omega)
  rw [HM.out] at hI
  refine hI.mono ?_
  rintro e w4 ⟨v4, rfl, ho4, hb4⟩
  have HB4 := Lib.hid (HB3.out.trans ((hbp.mono (by omega)).trans (hb4.mono hw1)))
  obtain ⟨A4, c4, rfl, _⟩ := ho4.form
  have HO4 := Lib.hid ho4
  have HL4 := Lib.hid (show (ms ++ [Value.slice Av nv cv]).length = m + 1 by simp [HM.out])
  clear ho4 hb4 hbp hI
  obtain ⟨L, hL⟩ : ∃ L, L = ms ++ [Value.slice Av nv cv] := ⟨_, rfl⟩
  have HS2 := HS.out
  rw [← hL] at HO4 HL4 HS2 ⊢
  have HS3 := Lib.hid HS2
  have HLL := Lib.hid hL
  clear hL HS2
  rw [HL4.out] at HO4 ⊢
  obtain ⟨hbw4, _, x4⟩ := HC.out _ HB4.out
  have HX4 := Lib.hid x4
  have HBW4 := Lib.hid hbw4
  have hlt4 : w.heap.size + 1 < w4.heap.size := lt_of_block x4
  clear x4 hbw4
  have hnb : n ≤ 300000 ∧ b ≤ 5000000 := by have := HOV.out; simp only [ovB, Bool.or_eq_false_iff, decide_eq_false_iff_not] at this; omega
  have HIT := Lib.hid (aR_it (HO4.out.reads (by rw [HL4.out]; simp only [maxLen]; omega)) (MemS.below HBW4.out HS3.out))
  go_wp2_with fail
  refine (within_any HIT.out HOV.out (by omega) (by omega)).mono ?_
  rintro e w6 ⟨rfl, hb6⟩
  have x6 := (hb6.block _ hlt4).trans HX4.out
  obtain ⟨d0, d1, d2, d3, d4, d5, d6, d7⟩ := blk8c x6
  obtain ⟨e0, e1, e2, e3, e4, e5, e6, e7⟩ := blk8f x6
  have HX6 := Lib.hid x6
  have HB6 := Lib.hid (HBW4.out.trans (hb6.mono HBW4.out.size))
  have HO6 : Hid (OwnM w6 w1.heap.size (.slice A4 (m + 1) c4) L) := Lib.hid (ownB HO4.out hb6)
  have hlt6 : w.heap.size + 1 < w6.heap.size := lt_of_block x6
  clear hb6 x6
  simp only [itV, aR]
  go_wp2
  obtain ⟨f0, f1, f2, f3, f4, f5, f6, f7⟩ := blk8c (st8 HX6.out (.int .i64 3) (.int .i64 0) (.string { data := #[] }) (.int .i64 0) (.int .i64 0) (.slice none 0 0) (.slice A4 (m + 1) c4) (.pointer none))
  refine bodyPost_ret (v := .tuple #[itV (aR (.slice A4 (m + 1) c4)), .int .i64 0]) (w := set8 w6 (w.heap.size + 1) (.int .i64 3) (.int .i64 0) (.string { data := #[] }) (.int .i64 0) (.int .i64 0) (.slice none 0 0) (.slice A4 (m + 1) c4) (.pointer none)) ?_ rfl ⟨below_set8 HB6.out (by omega) .., _, rfl, ?_⟩
  · generalize set8 w6 (w.heap.size + 1) (.int .i64 3) (.int .i64 0) (.string { data := #[] }) (.int .i64 0) (.int .i64 0) (.slice none 0 0) (.slice A4 (m + 1) c4) (.pointer none) = W at *
    simp [results, Tryz.results8, go_sem, f0, f1, f2, f3, f4, f5, f6, f7, itV, aR]
  · rw [← HLL.out]
    exact (HO6.out.set8 (X := w.heap.size + 1) (by omega) (.int .i64 3) (.int .i64 0) (.string { data := #[] }) (.int .i64 0) (.int .i64 0) (.slice none 0 0) (.slice A4 (m + 1) c4) (.pointer none)).reads (by rw [HL4.out]; simp only [maxLen]; omega)
end Go.Proofs.YtahidclhplmkiaaGreatDoor
