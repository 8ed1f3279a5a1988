/- Package maps: Remove at maps of the examples. -/
import Derived.Test.YtahidclhplmkiaaGreatDoorMIgq
import Derived.Test.YtahidclhplmkiaaGreatDoorMIge
namespace Go.Proofs.YtahidclhplmkiaaGreatDoor
open Go.RowKit
set_option linter.unusedVariables false
set_option linter.unusedSimpArgs false

def remL (l : List PRow) (t : ByteArray) : List PRow := match whr (keyAt t) l 0 with | .ofNat j => cutL l j | _ => l
/-- Remove's answer. -/
def RemP (L : List PRow) (w : World) (e : Ending) (w' : World) : Prop := Below w.heap.size w w' ∧ ∃ u, e = .returned (.tuple #[itV (mapR u), .int .i64 0]) ∧ RdP w' L u
theorem RdP.set8 {W : World} {v : Value} {l : List PRow} (h : RdP W l v) {X : Nat} (hX : ∀ b off n c, v = .slice (some ⟨b, off, none⟩) n c → b ≠ X) (b0 b1 b2 b3 b4 b5 b6 b7 : Value) : RdP (set8 W X b0 b1 b2 b3 b4 b5 b6 b7) l v := by
  obtain ⟨A, c, e, hm, h⟩ := h
  refine ⟨A, c, e, hm, fun hn => ?_⟩
  obtain ⟨b, off, e1, hlt, hc⟩ := h hn
  refine ⟨b, off, e1, by simpa [Go.Proofs.YtahidclhplmkiaaGreatDoor.set8, World.setCell] using hlt, fun j hj i hi => ?_⟩
  have hne := hX b off _ c (e1 ▸ e)
  have : (Go.Proofs.YtahidclhplmkiaaGreatDoor.set8 W X b0 b1 b2 b3 b4 b5 b6 b7).cell? ⟨b, off + j * 3 + i, none⟩ = W.cell? ⟨b, off + j * 3 + i, none⟩ :=
    World.cell?_of_block (w := W) ((grow_set8.block b hlt (by simpa using hne)))
  rw [this]
  exact hc j hj i hi
set_option maxRecDepth 100000 in
set_option maxHeartbeats 4000000 in
theorem remove_any (r : IRow) (l : List PRow) (k : Int) (t : ByteArray) (w : World) (h : MapE w r l) (hk : KeyS k t) :
    Calls Tryz.prog 13 #[itV r, .agg #[.int .i64 k, .string t]] w (RemP (remL l t) w) := by
  have H := Lib.hid h
  have HK := Lib.hid hk
  obtain ⟨A, c, hA, hm⟩ := h.rd.form
  have HE := Lib.hid (fun p hp => h.ke p hp)
  have hlen := h.len
  have hr := h.ok
  have hk2 := h.k
  clear h hk
  obtain ⟨k', ak, tx, tr, nd, ps, ms, fn⟩ := r
  dsimp only at hA hk2
  subst hA
  subst hk2
  have sms := fun w a m => run_store Tryz.prog w a ms m hr.ms
  have sfn := fun w a m => run_store Tryz.prog w a fn m hr.fn
  have oms := hr.ms
  have ofn := hr.fn
  dsimp only at oms ofn
  clear hr hm
  generalize hl : l.length = m at *
  have HM := Lib.hid hl
  clear hl
  simp only [itV]
  go_enter Tryz.func13, Tryz.ntmps13
  obtain ⟨W0, hW0⟩ : ∃ W0, ((w.alloc (.cells #[.int .i64 2, .int .i64 ak, .string tx, .int .i64 tr, .int .i64 nd, .slice A m c, ms, fn] 30)).alloc (.cells #[.int .i64 k, .string t] 26)).alloc zblk = W0 := ⟨_, rfl⟩
  have hbx := Lib.hid (show Below w.heap.size w W0 from hW0 ▸ (((box1 w 30 #[.int .i64 2, .int .i64 ak, .string tx, .int .i64 tr, .int .i64 nd, .slice A m c, ms, fn]).alloc (by simp) (.cells #[.int .i64 k, .string t] 26)).alloc (by simp; omega) zblk))
  have y0 : W0.heap[w.heap.size]? = some (.cells #[.int .i64 2, .int .i64 ak, .string tx, .int .i64 tr, .int .i64 nd, .slice A m c, ms, fn] 30) := hW0 ▸ hp_past (hp_past (hp_new rfl))
  have y1 : W0.heap[w.heap.size + 1]? = some (.cells #[.int .i64 k, .string t] 26) := hW0 ▸ hp_past (hp_new (by simp))
  have y2 : W0.heap[w.heap.size + 2]? = some zblk := hW0 ▸ hp_new (by simp)
  have HC := Lib.hid (show ∀ W, Below (w.heap.size + 3) W0 W →
      Below w.heap.size w W ∧ W.cell? ⟨w.heap.size, 5, none⟩ = some (.slice A m c) ∧ W.cell? ⟨w.heap.size + 1, 0, none⟩ = some (.int .i64 k) ∧ W.cell? ⟨w.heap.size + 1, 1, none⟩ = some (.string t) ∧ W.heap[w.heap.size + 1 + 1]? = some zblk from fun W hW =>
    ⟨hbx.out.trans (hW.mono (by omega)), (blk8c ((hW.block _ (by omega)).trans y0)).2.2.2.2.2.1, (blk2c ((hW.block _ (by omega)).trans y1)).1, (blk2c ((hW.block _ (by omega)).trans y1)).2, (hW.block _ (by omega)).trans y2⟩)
  clear y0 y1 y2
  have hz0 : W0.heap.size = w.heap.size + 3 := by subst hW0; simp
  have HW0 := Lib.hid hW0
  clear hW0
  go_wp2_with fail
  have hIM := MapE.is (r := ⟨2, ak, tx, tr, nd, .slice A m c, ms, fn⟩) (H.out.below hbx.out)
  rw [← HW0.out] at hIM
  refine (hIM).mono ?_
  rintro e w1 ⟨rfl, hb1⟩
  have HB1 := Lib.hid (show Below (w.heap.size + 3) W0 w1 by rw [← HW0.out]; exact hb1.mono (by simp))
  have hw1 := (show w.heap.size + 3 ≤ w1.heap.size by have := HB1.out.size; omega)
  clear hb1 hIM
  obtain ⟨_, b5, k0, k1, _⟩ := HC.out _ HB1.out
  go_wp2_with fail
  refine (HK.out.valid _).mono ?_
  rintro e w2 ⟨rfl, hb2⟩
  have HB2 := Lib.hid (HB1.out.trans (hb2.mono hw1))
  have hw2 := (show w.heap.size + 3 ≤ w2.heap.size by have := hb2.size; omega)
  clear hb2 b5 k0 k1
  obtain ⟨_, b5, k0, k1, _⟩ := HC.out _ HB2.out
  go_wp2_with fail
  refine (cloneP_any l _ w2 (RdRows.below H.out.rd (HC.out _ HB2.out).1) (by rw [HM.out]; omega) (fun p hp => (HE.out p hp).2)).mono ?_
  rintro e w3 ⟨v3, rfl, ho3, hb3⟩
  have HB3 := Lib.hid (HB2.out.trans (hb3.mono hw2))
  have hw3 := (show w.heap.size + 3 ≤ w3.heap.size by have := hb3.size; omega)
  have hw23 := hb3.size
  obtain ⟨A3, c3, rfl⟩ := ho3.form
  rw [HM.out] at ho3 ⊢
  have HO3 := Lib.hid ho3
  clear hb3 ho3 b5 k0 k1
  obtain ⟨_, b5, k0, k1, _⟩ := HC.out _ HB3.out
  go_wp2_with fail
  refine (entry_any l _ k t _ (HO3.out.reads (by rw [HM.out]; simp only [maxLen]; omega)) (fun p hp => (HE.out p hp).kp) (by rw [HM.out]; omega) HK.out.1).mono ?_
  rintro e w4 ⟨rfl, hb4⟩
  have HO4 := Lib.hid (HO3.out.below hb4)
  have HB4 := Lib.hid (HB3.out.trans (hb4.mono hw3))
  have hw4 := (show w3.heap.size ≤ w4.heap.size from hb4.size)
  have hw2' := (show w.heap.size + 3 ≤ w2.heap.size from hw2)
  clear hb4 b5 k0 k1
  rcases whr_find (keyAt t) l 0 with ⟨h1, h2⟩ | ⟨j, p, h1, h2, h3, h4⟩
  · have hz : whr (keyAt t) l 0 = -1 := h1
    have hL : remL l t = l := by simp only [remL, hz]
    have HL := Lib.hid hL
    clear h1 h2 hL
    simp only [hz]
    have HB5 := HB4
    have HR5 := Lib.hid (HO4.out.reads (by rw [HM.out]; simp only [maxLen]; omega))
    have HA5 := Lib.hid (World.ownsRow.lt HO4.out)
    generalize w4 = w5 at *
    obtain ⟨hbw5, _, _, _, x5⟩ := HC.out _ HB5.out
    obtain ⟨d0, d1, d2, d3, d4, d5, d6, d7⟩ := blk8c x5
    obtain ⟨e0, e1, e2, e3, e4, e5, e6, e7⟩ := blk8f x5
    have HX5 := Lib.hid x5
    have HBW5 := Lib.hid hbw5
    have hlt5 : w.heap.size + 1 + 1 < w5.heap.size := lt_of_block x5
    clear x5 hbw5
    go_wp2
    obtain ⟨f0, f1, f2, f3, f4, f5, f6, f7⟩ := blk8c (st8 HX5.out (.int .i64 2) (.int .i64 0) (.string { data := #[] }) (.int .i64 0) (.int .i64 0) (.slice A3 m c3) (.slice none 0 0) (.pointer none))
    refine bodyPost_ret (v := .tuple #[itV (mapR (.slice A3 m c3)), .int .i64 0]) (w := set8 w5 (w.heap.size + 1 + 1) (.int .i64 2) (.int .i64 0) (.string { data := #[] }) (.int .i64 0) (.int .i64 0) (.slice A3 m c3) (.slice none 0 0) (.pointer none)) ?_ rfl ⟨below_set8 HBW5.out (by omega) .., _, rfl, ?_⟩
    · generalize set8 w5 (w.heap.size + 1 + 1) (.int .i64 2) (.int .i64 0) (.string { data := #[] }) (.int .i64 0) (.int .i64 0) (.slice A3 m c3) (.slice none 0 0) (.pointer none) = W at *
      simp [results, Tryz.results13, go_sem, f0, f1, f2, f3, f4, f5, f6, f7, itV, mapR]
    · rw [HL.out]
      refine HR5.out.set8 (fun b off n c e => ?_) ..
      cases e
      have := (HA5.out b rfl).1
      omega
  · have hz : whr (keyAt t) l 0 = (j : Int) := by simpa using h1
    have hL : remL l t = cutL l j := by simp only [remL, hz]
    have HL := Lib.hid hL
    have hjm : j < m := by rw [← HM.out]; exact h2
    obtain ⟨g, cap, e3, hg1, hg2⟩ := World.ownsRow.form HO4.out (by omega)
    injection e3 with e3 e5 e4
    clear e5
    subst e3
    obtain rfl : cap = c3 := e4.symm
    clear h1 h2 h3 h4 hL
    simp only [hz]
    go_wp2_with fail
    refine (deleteP_any l g m cap j w2.heap.size w4 HO4.out HM.out hjm (fun p hp => (HE.out p hp).2) (by omega)).mono ?_
    rintro e w5 ⟨hb5, rfl, hr5⟩
    have HB5 := Lib.hid (HB4.out.trans (hb5.mono hw2'))
    have HR5 := Lib.hid hr5
    have hgX := (World.ownsRow.lt HO4.out g rfl).1
    clear hb5 hr5
    generalize m - 1 = M1 at *
    obtain ⟨hbw5, _, _, _, x5⟩ := HC.out _ HB5.out
    obtain ⟨d0, d1, d2, d3, d4, d5, d6, d7⟩ := blk8c x5
    obtain ⟨e0, e1, e2, e3, e4, e5, e6, e7⟩ := blk8f x5
    have HX5 := Lib.hid x5
    have HBW5 := Lib.hid hbw5
    have hlt5 : w.heap.size + 1 + 1 < w5.heap.size := lt_of_block x5
    clear x5 hbw5
    go_wp2
    obtain ⟨f0, f1, f2, f3, f4, f5, f6, f7⟩ := blk8c (st8 HX5.out (.int .i64 2) (.int .i64 0) (.string { data := #[] }) (.int .i64 0) (.int .i64 0) (.slice (some ⟨g, 0, none⟩) M1 cap) (.slice none 0 0) (.pointer none))
    refine bodyPost_ret (v := .tuple #[itV (mapR (.slice (some ⟨g, 0, none⟩) M1 cap)), .int .i64 0]) (w := set8 w5 (w.heap.size + 1 + 1) (.int .i64 2) (.int .i64 0) (.string { data := #[] }) (.int .i64 0) (.int .i64 0) (.slice (some ⟨g, 0, none⟩) M1 cap) (.slice none 0 0) (.pointer none)) ?_ rfl ⟨below_set8 HBW5.out (by omega) .., _, rfl, ?_⟩
    · generalize set8 w5 (w.heap.size + 1 + 1) (.int .i64 2) (.int .i64 0) (.string { data := #[] }) (.int .i64 0) (.int .i64 0) (.slice (some ⟨g, 0, none⟩) M1 cap) (.slice none 0 0) (.pointer none) = W at *
      simp [results, Tryz.results13, go_sem, f0, f1, f2, f3, f4, f5, f6, f7, itV, mapR]
    · rw [HL.out]
      refine HR5.out.set8 (fun b off n c e => ?_) ..
      cases e
      omega
end Go.Proofs.YtahidclhplmkiaaGreatDoor
