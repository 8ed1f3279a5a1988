/- Package maps: Put, the walk. -/
import Derived.Test.YtahidclhplmkiaaGreatDoorM9
namespace Go.Proofs.YtahidclhplmkiaaGreatDoor
open Go.RowKit
set_option linter.unusedVariables false
set_option linter.unusedSimpArgs false

theorem blk2c {W : World} {X : Nat} {t : TypeId} {a0 a1 : Value} (h : W.heap[X]? = some (.cells #[a0, a1] t (0, 0))) : W.cell? ⟨X, 0, none⟩ = some a0 ∧ W.cell? ⟨X, 1, none⟩ = some a1 := by
  simp [World.cell?, h]
set_option maxRecDepth 100000 in
set_option maxHeartbeats 4000000 in
theorem put_any (r : IRow) (l : List PRow) (k : Int) (t : ByteArray) (Av : Option Addr) (nv cv : Nat) (w : World) (h : MapE w r l) (hk : KeyS k t) (hnv : nv ≤ 65536) {d n b : Nat} (hs : EntS w d (putL l ⟨k, t, .slice Av nv cv⟩) n b) (ho : ovB (1 + n) b = false) :
    Calls Tryz.prog 6 #[itV r, .agg #[.int .i64 k, .string t], .slice Av nv cv] w (PutP (putL l ⟨k, t, .slice Av nv cv⟩) w) := by
  have H := Lib.hid h
  have HK := Lib.hid hk
  have HS := Lib.hid hs
  have HOV := Lib.hid ho
  obtain ⟨A, c, hA, hm⟩ := h.rd.form
  have HE := Lib.hid (fun p hp => h.ke p hp)
  have hlen := h.len
  have hr := h.ok
  have hk2 := h.k
  clear h hk hs ho
  obtain ⟨k', ak, tx, tr, nd, ps, ms, fn⟩ := r
  dsimp only at hA hk2
  subst hA
  subst hk2
  have sms := fun w a m => run_store Tryz.prog w a ms m hr.ms
  have sfn := fun w a m => run_store Tryz.prog w a fn m hr.fn
  have oms := hr.ms
  have ofn := hr.fn
  dsimp only at oms ofn
  clear hr hm
  generalize hl : l.length = m at *
  have HM := Lib.hid hl
  clear hl
  simp only [itV]
  go_enter Tryz.func6, Tryz.ntmps6
  obtain ⟨W0, hW0⟩ : ∃ W0, ((w.alloc (.cells #[.int .i64 2, .int .i64 ak, .string tx, .int .i64 tr, .int .i64 nd, .slice A m c, ms, fn] 30)).alloc (.cells #[.int .i64 k, .string t] 26)).alloc zblk = W0 := ⟨_, rfl⟩
  have hbx := Lib.hid (show Below w.heap.size w W0 from hW0 ▸ (((box1 w 30 #[.int .i64 2, .int .i64 ak, .string tx, .int .i64 tr, .int .i64 nd, .slice A m c, ms, fn]).alloc (by simp) (.cells #[.int .i64 k, .string t] 26)).alloc (by simp; omega) zblk))
  have y0 : W0.heap[w.heap.size]? = some (.cells #[.int .i64 2, .int .i64 ak, .string tx, .int .i64 tr, .int .i64 nd, .slice A m c, ms, fn] 30) := hW0 ▸ hp_past (hp_past (hp_new rfl))
  have y1 : W0.heap[w.heap.size + 1]? = some (.cells #[.int .i64 k, .string t] 26) := hW0 ▸ hp_past (hp_new (by simp))
  have y2 : W0.heap[w.heap.size + 2]? = some zblk := hW0 ▸ hp_new (by simp)
  have HC := Lib.hid (show ∀ W, Below (w.heap.size + 3) W0 W →
      Below w.heap.size w W ∧ W.cell? ⟨w.heap.size, 5, none⟩ = some (.slice A m c) ∧ W.cell? ⟨w.heap.size + 1, 0, none⟩ = some (.int .i64 k) ∧ W.cell? ⟨w.heap.size + 1, 1, none⟩ = some (.string t) ∧ W.heap[w.heap.size + 1 + 1]? = some zblk from fun W hW =>
    ⟨hbx.out.trans (hW.mono (by omega)), (blk8c ((hW.block _ (by omega)).trans y0)).2.2.2.2.2.1, (blk2c ((hW.block _ (by omega)).trans y1)).1, (blk2c ((hW.block _ (by omega)).trans y1)).2, (hW.block _ (by omega)).trans y2⟩)
  clear y0 y1 y2
  have hz0 : W0.heap.size = w.heap.size + 3 := by subst hW0; simp
  have HW0 := Lib.hid hW0
  clear hW0
  go_wp2_with fail
  have hIM := MapE.is (r := ⟨2, ak, tx, tr, nd, .slice A m c, ms, fn⟩) (H.out.below hbx.out)
  rw [← HW0.out] at hIM
  refine (hIM).mono ?_
  rintro e w1 ⟨rfl, hb1⟩
  have HB1 := Lib.hid (show Below (w.heap.size + 3) W0 w1 by rw [← HW0.out]; exact hb1.mono (by simp))
  have hw1 := (show w.heap.size + 3 ≤ w1.heap.size by have := HB1.out.size; omega)
  clear hb1 hIM
  obtain ⟨_, b5, k0, k1, _⟩ := HC.out _ HB1.out
  go_wp2_with fail
  refine (HK.out.valid _).mono ?_
  rintro e w2 ⟨rfl, hb2⟩
  have HB2 := Lib.hid (HB1.out.trans (hb2.mono hw1))
  have hw2 := (show w.heap.size + 3 ≤ w2.heap.size by have := hb2.size; omega)
  clear hb2 b5 k0 k1
  obtain ⟨_, b5, k0, k1, _⟩ := HC.out _ HB2.out
  go_wp2_with fail
  refine (cloneP_any l _ w2 (RdRows.below H.out.rd (HC.out _ HB2.out).1) (by rw [HM.out]; omega) (fun p hp => (HE.out p hp).2)).mono ?_
  rintro e w3 ⟨v3, rfl, ho3, hb3⟩
  have HB3 := Lib.hid (HB2.out.trans (hb3.mono hw2))
  have hw3 := (show w.heap.size + 3 ≤ w3.heap.size by have := hb3.size; omega)
  have hw23 := hb3.size
  obtain ⟨A3, c3, rfl⟩ := ho3.form
  rw [HM.out] at ho3 ⊢
  have HO3 := Lib.hid ho3
  clear hb3 ho3 b5 k0 k1
  obtain ⟨_, b5, k0, k1, _⟩ := HC.out _ HB3.out
  have hlt1 : w.heap.size + 1 < w3.heap.size := by omega
  go_wp2_with fail
  have hbp := box1 w3 33 #[.int .i64 k, .string t, .slice Av nv cv]
  have HO3b := Lib.hid (HO3.out.below hbp)
  refine (entry_any l _ k t _ (HO3b.out.reads (by rw [HM.out]; simp only [maxLen]; omega)) (fun p hp => (HE.out p hp).kp) (by rw [HM.out]; omega) HK.out.1).mono ?_
  rintro e w4 ⟨rfl, hb4⟩
  have HO4 := Lib.hid (HO3b.out.below hb4)
  have q0 := (hb4.cell (p := ⟨w3.heap.size, 0, none⟩) (by simp)).trans (show _ = some (Value.int .i64 k) by simp)
  have q1 := (hb4.cell (p := ⟨w3.heap.size, 1, none⟩) (by simp)).trans (show _ = some (Value.string t) by simp)
  have q2 := (hb4.cell (p := ⟨w3.heap.size, 2, none⟩) (by simp)).trans (show _ = some (Value.slice Av nv cv) by simp)
  have HB4 := Lib.hid (HB3.out.trans ((hbp.trans (hb4.mono (by simp))).mono hw3))
  have hw4 := (show w3.heap.size < w4.heap.size by have := hb4.size; simp at this; omega)
  have hw2' := (show w.heap.size + 3 ≤ w2.heap.size from hw2)
  clear hb4 hbp HO3b b5 k0 k1
  rcases whr_find (keyAt t) l 0 with ⟨h1, h2⟩ | ⟨j, p, h1, h2, h3, h4⟩
  · have hz : whr (keyAt t) l 0 = -1 := h1
    have hL : putL l ⟨k, t, .slice Av nv cv⟩ = l ++ [⟨k, t, .slice Av nv cv⟩] := by simp only [putL, hz]
    have HL := Lib.hid hL
    clear h1 h2 hL
    simp only [hz]
    go_wp2_with (at_builtin; refine appP w2.heap.size rfl (.tmp 35) (.tmp 37) rfl _ l rfl ⟨k, t, .slice Av nv cv⟩ rfl _ rfl rfl HO4.out ?c1 ?c2 ?_)
    case c1 => omega
    case c2 => rw [HM.out]; omega
    intro g cap w5 ho5 hg5 hw5
    rw [HM.out] at ho5 ⊢
    have HB5 := Lib.hid (HB4.out.trans ((Below.refl w2.heap.size w4).grown hg5 (by omega) (fun k hk => (World.ownsRow.lt HO4.out k hk).1) |>.mono hw2'))
    have HO5 := Lib.hid ho5
    have HL5 := Lib.hid (show (l ++ [⟨k, t, .slice Av nv cv⟩] : List PRow).length = m + 1 by simp [HM.out])
    clear ho5 hg5 q0 q1 q2
    generalize l ++ [⟨k, t, .slice Av nv cv⟩] = L at *
    obtain ⟨hbw5, _, _, _, x5⟩ := HC.out _ HB5.out
    have HX5 := Lib.hid x5
    have HBW5 := Lib.hid hbw5
    have hlt5 : w.heap.size + 1 + 1 < w5.heap.size := lt_of_block x5
    clear x5 hbw5
    have t1 : decide ((65536 : Int) < (nv : Int)) = false := by simp; omega
    have t2 : decide ((65536 : Int) < (m : Int) + 1) = false := by simp; omega
    have hnb : n ≤ 300000 ∧ b ≤ 5000000 := by have := HOV.out; simp only [ovB, Bool.or_eq_false_iff, decide_eq_false_iff_not] at this; omega
    have HIT := Lib.hid (mapR_it (d := d) (n := n) (b := b) (HO5.out.reads (by rw [HL5.out]; simp only [maxLen]; omega)) (by have := HS.out.below HBW5.out; rw [HL.out] at this; exact this))
    go_wp2_with fail
    refine (within_any HIT.out HOV.out (by omega) (by omega)).mono ?_
    rintro e w6 ⟨rfl, hb6⟩
    have x6 := (hb6.block _ hlt5).trans HX5.out
    obtain ⟨d0, d1, d2, d3, d4, d5, d6, d7⟩ := blk8c x6
    obtain ⟨e0, e1, e2, e3, e4, e5, e6, e7⟩ := blk8f x6
    have HX6 := Lib.hid x6
    have HB6 := Lib.hid (HBW5.out.trans (hb6.mono HBW5.out.size))
    have HO6 := Lib.hid (HO5.out.below hb6)
    have hlt6 : w.heap.size + 1 + 1 < w6.heap.size := lt_of_block x6
    clear hb6 x6
    simp only [itV, mapR]
    go_wp2
    obtain ⟨f0, f1, f2, f3, f4, f5, f6, f7⟩ := blk8c (st8 HX6.out (.int .i64 2) (.int .i64 0) (.string { data := #[] }) (.int .i64 0) (.int .i64 0) (.slice (some ⟨g, 0, none⟩) (m + 1) cap) (.slice none 0 0) (.pointer none))
    refine bodyPost_ret (v := .tuple #[itV (mapR (.slice (some ⟨g, 0, none⟩) (m + 1) cap)), .int .i64 0]) (w := set8 w6 (w.heap.size + 1 + 1) (.int .i64 2) (.int .i64 0) (.string { data := #[] }) (.int .i64 0) (.int .i64 0) (.slice (some ⟨g, 0, none⟩) (m + 1) cap) (.slice none 0 0) (.pointer none)) ?_ rfl ⟨below_set8 HB6.out (by omega) .., _, rfl, ?_⟩
    · generalize set8 w6 (w.heap.size + 1 + 1) (.int .i64 2) (.int .i64 0) (.string { data := #[] }) (.int .i64 0) (.int .i64 0) (.slice (some ⟨g, 0, none⟩) (m + 1) cap) (.slice none 0 0) (.pointer none) = W at *
      simp [results, Tryz.results6, go_sem, f0, f1, f2, f3, f4, f5, f6, f7, itV, mapR]
    · rw [HL.out]
      exact World.ownsRow.mono (HO6.out.set8 (by omega) ..) (by omega)
  · have hz : whr (keyAt t) l 0 = (j : Int) := by simpa using h1
    have hL : putL l ⟨k, t, .slice Av nv cv⟩ = l.set j ⟨k, t, .slice Av nv cv⟩ := by simp only [putL, hz]
    have HL := Lib.hid hL
    have hjm : j < m := by rw [← HM.out]; exact h2
    obtain ⟨g, cap, e3, hg1, hg2⟩ := World.ownsRow.form HO4.out (by omega)
    injection e3 with e3 e5 e4
    clear e5
    subst e3
    obtain rfl : cap = c3 := e4.symm
    obtain ⟨bI, off, r, e3, hbI, hget, hdrop, g0, g1, g2⟩ := RdP.row (HO4.out.reads (by rw [HM.out]; simp only [maxLen]; omega)) (Below.refl _ _) (k := j) hjm
    cases e3
    rw [Nat.zero_add] at g0 g1 g2
    have HOm : w4.ownsRow w2.heap.size 33 3 (.slice (some ⟨g, 0, none⟩) m cap) m (pflat l) := by have := HO4.out; unfold OwnP at this; rw [HM.out] at this; exact this
    have f0 := World.ownsRow.frozenAt HOm (j * 3)
    have f1 := World.ownsRow.frozenAt HOm (j * 3 + 1)
    have f2 := World.ownsRow.frozenAt HOm (j * 3 + 2)
    clear h1 h2 h3 h4 hL HOm
    have HO5 := Lib.hid (OwnP.put (by have := HO4.out; exact this) j ⟨k, t, .slice Av nv cv⟩ (by rw [HM.out]; exact hjm) HM.out)
    have HL5 := Lib.hid (show (l.set j ⟨k, t, .slice Av nv cv⟩ : List PRow).length = m by simp [HM.out])
    have HB5 := Lib.hid (((HB4.out.setCell (p := ⟨g, j * 3, none⟩) (by simp; omega) (.int .i64 k)).setCell (p := ⟨g, j * 3 + 1, none⟩) (by simp; omega) (.string t)).setCell (p := ⟨g, j * 3 + 2, none⟩) (by simp; omega) (.slice Av nv cv))
    obtain ⟨w5, hw5⟩ : ∃ w5, w5 = ((w4.setCell ⟨g, j * 3, none⟩ (.int .i64 k)).setCell ⟨g, j * 3 + 1, none⟩ (.string t)).setCell ⟨g, j * 3 + 2, none⟩ (.slice Av nv cv) := ⟨_, rfl⟩
    rw [← hw5] at HO5 HB5
    have HW5 := Lib.hid hw5
    clear hw5
    have t1 : decide ((65536 : Int) < (nv : Int)) = false := by simp; omega
    have t2 : decide ((65536 : Int) < (m : Int)) = false := by simp; omega
    simp only [hz]
    go_wp2_with fail
    rw [← HW5.out]
    clear q0 q1 q2 f0 f1 f2 g0 g1 g2 HW5
    obtain ⟨L, hLL⟩ : ∃ L, L = l.set j ⟨k, t, .slice Av nv cv⟩ := ⟨_, rfl⟩
    rw [← hLL] at HO5 HL HL5
    obtain ⟨hbw5, _, _, _, x5⟩ := HC.out _ HB5.out
    have HX5 := Lib.hid x5
    have HBW5 := Lib.hid hbw5
    have hlt5 : w.heap.size + 1 + 1 < w5.heap.size := lt_of_block x5
    clear x5 hbw5 hLL
    have hnb : n ≤ 300000 ∧ b ≤ 5000000 := by have := HOV.out; simp only [ovB, Bool.or_eq_false_iff, decide_eq_false_iff_not] at this; omega
    have HIT := Lib.hid (mapR_it (d := d) (n := n) (b := b) (HO5.out.reads (by rw [HL5.out]; simp only [maxLen]; omega)) (by have := HS.out.below HBW5.out; rw [HL.out] at this; exact this))
    refine (within_any HIT.out HOV.out (by omega) (by omega)).mono ?_
    rintro e w6 ⟨rfl, hb6⟩
    have x6 := (hb6.block _ hlt5).trans HX5.out
    obtain ⟨d0, d1, d2, d3, d4, d5, d6, d7⟩ := blk8c x6
    obtain ⟨e0, e1, e2, e3, e4, e5, e6, e7⟩ := blk8f x6
    have HX6 := Lib.hid x6
    have HB6 := Lib.hid (HBW5.out.trans (hb6.mono HBW5.out.size))
    have HO6 := Lib.hid (HO5.out.below hb6)
    have hlt6 : w.heap.size + 1 + 1 < w6.heap.size := lt_of_block x6
    clear hb6 x6
    simp only [itV, mapR]
    go_wp2
    obtain ⟨f0, f1, f2, f3, f4, f5, f6, f7⟩ := blk8c (st8 HX6.out (.int .i64 2) (.int .i64 0) (.string { data := #[] }) (.int .i64 0) (.int .i64 0) (.slice (some ⟨g, 0, none⟩) m cap) (.slice none 0 0) (.pointer none))
    refine bodyPost_ret (v := .tuple #[itV (mapR (.slice (some ⟨g, 0, none⟩) m cap)), .int .i64 0]) (w := set8 w6 (w.heap.size + 1 + 1) (.int .i64 2) (.int .i64 0) (.string { data := #[] }) (.int .i64 0) (.int .i64 0) (.slice (some ⟨g, 0, none⟩) m cap) (.slice none 0 0) (.pointer none)) ?_ rfl ⟨below_set8 HB6.out (by omega) .., _, rfl, ?_⟩
    · generalize set8 w6 (w.heap.size + 1 + 1) (.int .i64 2) (.int .i64 0) (.string { data := #[] }) (.int .i64 0) (.int .i64 0) (.slice (some ⟨g, 0, none⟩) m cap) (.slice none 0 0) (.pointer none) = W at *
      simp [results, Tryz.results6, go_sem, f0, f1, f2, f3, f4, f5, f6, f7, itV, mapR]
    · rw [HL.out]
      exact World.ownsRow.mono (HO6.out.set8 (by omega) ..) (by omega)
end Go.Proofs.YtahidclhplmkiaaGreatDoor
