/- Chapter maps, examples: works(). The walk. -/
import Derived.Deep.Cut
import Derived.Test.YtahidclhplmkiaaGreatDoorMIwb
namespace Go.Proofs.YtahidclhplmkiaaGreatDoor
open Go.RowKit
set_option linter.unusedVariables false
set_option linter.unusedSimpArgs false

set_option maxRecDepth 100000 in
set_option maxHeartbeats 8000000 in
theorem works_any (w : World) : Calls Tryz.prog 11 #[] w fun e w' => e = .returned (.bool true) ∧ Below w.heap.size w w' := by
  go_enter Tryz.func11, Tryz.ntmps11
  go_wp2_with fail
  refine (two_any _).mono ?_
  rintro e w1 ⟨hb1, X, X1, X2, rfl, hr1, l1, l1', l2, l2', i1, i2⟩
  rw [twoL_eq] at hr1
  have HB1 := Lib.hid hb1
  have HM1 := Lib.hid (mapL_E hr1)
  have HI1 := Lib.hid (And.intro i1 l1')
  clear hb1 hr1 l1 l1' l2 l2' i1 i2
  go_wp2_with fail
  refine (number_any _ _).mono ?_
  rintro e w2 ⟨rfl, hb2⟩
  have HB2 := Lib.hid (HB1.out.trans (hb2.mono HB1.out.size))
  have HM2 := Lib.hid (HM1.out.below hb2)
  have HI2 := Lib.hid (And.intro (HI1.out.1.below HI1.out.2 hb2) (Nat.lt_of_lt_of_le HI1.out.2 hb2.size))
  clear hb2
  go_wp2_with fail
  refine (txt_any _ _).mono ?_
  rintro e w3 ⟨hb3, hlt3, rfl, hi3⟩
  have HB3 := Lib.hid (HB2.out.trans (hb3.mono HB2.out.size))
  have HM3 := Lib.hid (HM2.out.below hb3)
  have HI3 := Lib.hid (And.intro (HI2.out.1.below HI2.out.2 hb3) (Nat.lt_of_lt_of_le HI2.out.2 hb3.size))
  have HJ3 := Lib.hid (And.intro hi3 hlt3)
  obtain ⟨Y, hY⟩ : ∃ Y, Y = w2.heap.size := ⟨_, rfl⟩
  rw [← hY] at HJ3 ⊢
  clear hb3 hlt3 hi3 hY
  have hput := put_any (mapR (.slice (some ⟨X, 0, none⟩) 2 2)) (mapL X1 X2) 3 d2 (some ⟨Y, 0, none⟩) 1 1 w3 HM3.out ⟨.inl rfl, .inr (.inl rfl)⟩ (by omega) (d := 1) (n := 4) (b := 4) (by rw [show (Value.slice (some ⟨Y, 0, none⟩) 1 1) = sl1 Y from rfl, mapL_put]; exact mapL_ent HI3.out.1 HI3.out.2 HJ3.out.1 HJ3.out.2 (by decide +kernel) (by decide +kernel)) seq_ov
  rw [show (Value.slice (some ⟨Y, 0, none⟩) 1 1) = sl1 Y from rfl, mapL_put] at hput
  have HP := Lib.hid hput
  clear hput
  simp only [itV, mapR]
  go_wp2_with fail
  refine HP.out.mono ?_
  rintro e w4 ⟨hb4, u4, rfl, ho4⟩
  have HB4 := Lib.hid (HB3.out.trans (hb4.mono HB3.out.size))
  have HO4 := Lib.hid (ho4.reads (by simp [mapL, maxLen]))
  have HJ4 := Lib.hid (And.intro (HJ3.out.1.below HJ3.out.2 hb4) (Nat.lt_of_lt_of_le HJ3.out.2 hb4.size))
  obtain ⟨A4, c4, rfl, _⟩ := HO4.out.form
  clear hb4 ho4 HP
  rw [show (mapL X1 Y).length = 2 from rfl] at HO4 ⊢
  simp only [itV, mapR]
  have HN2 := Lib.hid number_any
  go_wp2_with fail
  obtain ⟨W5, hW5⟩ : ∃ W5, w4.alloc (.cells #[.int .i64 2, .int .i64 0, .string { data := #[] }, .int .i64 0, .int .i64 0, .slice A4 2 c4, .slice none 0 0, .pointer none] 30) = W5 := ⟨_, rfl⟩
  have hbx := box1 w4 30 #[.int .i64 2, .int .i64 0, .string { data := #[] }, .int .i64 0, .int .i64 0, .slice A4 2 c4, .slice none 0 0, .pointer none]
  have x5 : W5.heap[w4.heap.size]? = some (.cells #[.int .i64 2, .int .i64 0, .string { data := #[] }, .int .i64 0, .int .i64 0, .slice A4 2 c4, .slice none 0 0, .pointer none] 30) := hW5 ▸ hp_new rfl
  rw [hW5] at hbx ⊢
  have HB5 := Lib.hid (HB4.out.trans (hbx.mono HB4.out.size))
  have HJ5 := Lib.hid (And.intro (HJ4.out.1.below HJ4.out.2 hbx) (Nat.lt_of_lt_of_le HJ4.out.2 hbx.size))
  have HM5 := Lib.hid (mapL_E (RdRows.below HO4.out hbx))
  have hltB : w4.heap.size < W5.heap.size := lt_of_block x5
  have hwB : w.heap.size ≤ w4.heap.size := HB4.out.size
  have HX5 := Lib.hid x5
  clear hbx hW5 HB4 HO4 HJ4
  generalize w4.heap.size = B1 at *
  obtain ⟨c0, c1, c2, c3, c4', c5, c6, c7⟩ := blk8c x5
  clear x5
  go_region_with (first | (go_at_call 5; refine (HN2.out _ _).mono ?_; rintro e v1 ⟨rfl, hv1⟩; obtain ⟨q0, q1, q2, q3, q4, q5, q6, q7⟩ := blk8c ((hv1.block B1 hltB).trans HX5.out)) | (go_at_call 17; refine (get_two X1 Y _ _ (HM5.out.below ((Below.refl W5.heap.size W5).drew.trans hv1))).mono ?_; rintro e v2 ⟨rfl, hv2⟩))
  all_goals
    have hd5 := (Below.refl W5.heap.size W5).drew
    have HB6 := Lib.hid (HB5.out.trans (((hd5.trans hv1).trans (hv2.mono hv1.size)).mono HB5.out.size))
    have HJ6 := Lib.hid (And.intro ((HJ5.out.1.below HJ5.out.2 (hd5.trans hv1)).below (Nat.lt_of_lt_of_le HJ5.out.2 hv1.size) hv2) (Nat.lt_of_lt_of_le HJ5.out.2 (Nat.le_trans hv1.size hv2.size)))
    clear hd5 hv1 hv2 q0 q1 q2 q3 q4 q5 q6 q7 c0 c1 c2 c3 c4' c5 c6 c7 HX5 HM5 HJ5 HB5 hltB hwB HN2
    go_wp2_with fail
    refine (two_any _).mono ?_
    rintro e v3 ⟨hb, X', X3, X4, rfl, hr3, l1, l1', l2, l2', i1, i2⟩
    rw [twoL_eq] at hr3
    have HB7 := Lib.hid (HB6.out.trans (hb.mono HB6.out.size))
    have HM7 := Lib.hid (mapL_E hr3)
    have HJ7 := Lib.hid (And.intro (HJ6.out.1.below HJ6.out.2 hb) (Nat.lt_of_lt_of_le HJ6.out.2 hb.size))
    clear hb hr3 l1 l1' l2 l2' i1 i2 HB6 HJ6
    simp only [itV, mapR]
    go_wp2_with fail
    refine (number_any _ _).mono ?_
    rintro e v4 ⟨rfl, hb⟩
    have HB8 := Lib.hid (HB7.out.trans (hb.mono HB7.out.size))
    have HM8 := Lib.hid (HM7.out.below hb)
    have HJ8 := Lib.hid (And.intro (HJ7.out.1.below HJ7.out.2 hb) (Nat.lt_of_lt_of_le HJ7.out.2 hb.size))
    clear hb HB7 HM7 HJ7
    go_wp2_with fail
    refine (rem_two X3 X4 _ _ HM8.out).mono ?_
    rintro e v5 ⟨hb, u5, rfl, hr5⟩
    have HB9 := Lib.hid (HB8.out.trans (hb.mono HB8.out.size))
    have HJ9 := Lib.hid (And.intro (HJ8.out.1.below HJ8.out.2 hb) (Nat.lt_of_lt_of_le HJ8.out.2 hb.size))
    obtain ⟨A5, c5, rfl, _⟩ := hr5.form
    have HR9 := Lib.hid hr5
    clear hb hr5 HB8 HM8 HJ8
    rw [show ([⟨3, d2, sl1 X4⟩] : List PRow).length = 1 from rfl] at *
    simp only [itV, mapR]
    go_wp2_with fail
    obtain ⟨W10, hW10⟩ : ∃ W10, v5.alloc (.cells #[.int .i64 2, .int .i64 0, .string { data := #[] }, .int .i64 0, .int .i64 0, .slice A5 1 c5, .slice none 0 0, .pointer none] 30) = W10 := ⟨_, rfl⟩
    have hbx := box1 v5 30 #[.int .i64 2, .int .i64 0, .string { data := #[] }, .int .i64 0, .int .i64 0, .slice A5 1 c5, .slice none 0 0, .pointer none]
    have x10 : W10.heap[v5.heap.size]? = some (.cells #[.int .i64 2, .int .i64 0, .string { data := #[] }, .int .i64 0, .int .i64 0, .slice A5 1 c5, .slice none 0 0, .pointer none] 30) := hW10 ▸ hp_new rfl
    rw [hW10] at hbx ⊢
    have HB10 := Lib.hid (HB9.out.trans (hbx.mono HB9.out.size))
    have HJ10 := Lib.hid (And.intro (HJ9.out.1.below HJ9.out.2 hbx) (Nat.lt_of_lt_of_le HJ9.out.2 hbx.size))
    have HX10 := Lib.hid x10
    have HL10 := Lib.hid (lt_of_block x10)
    clear hbx hW10 HB9 HJ9 x10 HR9
    generalize v5.heap.size = B5 at *
    refine (txt_any _ _).mono ?_
    rintro e v6 ⟨hb, hlt, rfl, hi⟩
    have HB11 := Lib.hid (HB10.out.trans (hb.mono HB10.out.size))
    have HJ11 := Lib.hid (And.intro (HJ10.out.1.below HJ10.out.2 hb) (Nat.lt_of_lt_of_le HJ10.out.2 hb.size))
    have HX11 := Lib.hid ((hb.block B5 HL10.out).trans HX10.out)
    have HT11 := Lib.hid (And.intro hi hlt)
    obtain ⟨T, hT⟩ : ∃ T, T = W10.heap.size := ⟨_, rfl⟩
    rw [← hT] at HT11 ⊢
    clear hb hlt hi hT HB10 HJ10 HX10 HL10
    have HL11 := Lib.hid (lt_of_block HX11.out)
    have hbz := box1 v6 22 #[.slice (some ⟨T, 0, none⟩) 1 1]
    have HI11 := Lib.hid (ins_two T v6.heap.size (v6.alloc (.cells #[.slice (some ⟨T, 0, none⟩) 1 1] 22)) (by simp) (by simp [sl1]) (HT11.out.1.below HT11.out.2 hbz) (Nat.lt_of_lt_of_le HT11.out.2 hbz.size))
    have HZ11 := Lib.hid hbz
    clear hbz
    go_wp2_with fail
    refine HI11.out.mono ?_
    rintro e v7 ⟨hb0, u7, rfl, hu7⟩
    have hb := HZ11.out.trans (hb0.mono HZ11.out.size)
    have HB12 := Lib.hid (HB11.out.trans (hb.mono HB11.out.size))
    have HJ12 := Lib.hid (And.intro (HJ11.out.1.below HJ11.out.2 hb) (Nat.lt_of_lt_of_le HJ11.out.2 hb.size))
    have HT12 := Lib.hid (And.intro (HT11.out.1.below HT11.out.2 hb) (Nat.lt_of_lt_of_le HT11.out.2 hb.size))
    have HX12 := Lib.hid ((hb.block B5 HL11.out).trans HX11.out)
    have HL12 := Lib.hid (lt_of_block HX12.out)
    have HU12 := Lib.hid hu7
    obtain ⟨A7, c7, rfl, _⟩ := hu7.form
    clear hb hb0 hu7 HB11 HJ11 HT11 HX11 HL11 HI11 HZ11
    rw [show ([sl1 T, .slice none 0 0] : List Value).length = 2 from rfl] at *
    simp only [itV, aR]
    have HN2 := Lib.hid two_any
    go_wp2_with fail
    obtain ⟨W13, hW13⟩ : ∃ W13, v7.alloc (.cells #[.int .i64 3, .int .i64 0, .string { data := #[] }, .int .i64 0, .int .i64 0, .slice none 0 0, .slice A7 2 c7, .pointer none] 30) = W13 := ⟨_, rfl⟩
    have hb := box1 v7 30 #[.int .i64 3, .int .i64 0, .string { data := #[] }, .int .i64 0, .int .i64 0, .slice none 0 0, .slice A7 2 c7, .pointer none]
    have x13 : W13.heap[v7.heap.size]? = some (.cells #[.int .i64 3, .int .i64 0, .string { data := #[] }, .int .i64 0, .int .i64 0, .slice none 0 0, .slice A7 2 c7, .pointer none] 30) := hW13 ▸ hp_new rfl
    rw [hW13] at hb ⊢
    have HB13 := Lib.hid (HB12.out.trans (hb.mono HB12.out.size))
    have HJ13 := Lib.hid (And.intro (HJ12.out.1.below HJ12.out.2 hb) (Nat.lt_of_lt_of_le HJ12.out.2 hb.size))
    have HT13 := Lib.hid (And.intro (HT12.out.1.below HT12.out.2 hb) (Nat.lt_of_lt_of_le HT12.out.2 hb.size))
    have HX13 := Lib.hid ((hb.block B5 HL12.out).trans HX12.out)
    have HL13 := Lib.hid (lt_of_block HX13.out)
    have HU13 := Lib.hid (RdRows.below HU12.out hb)
    have HY13 := Lib.hid x13
    have hltB : v7.heap.size < W13.heap.size := lt_of_block x13
    clear hb hW13 HB12 HJ12 HT12 HX12 HL12 HU12
    generalize v7.heap.size = B7 at *
    obtain ⟨c0, c1, c2, c3, c4', c5', c6, c7'⟩ := blk8c x13
    clear x13
    have HD13 := Lib.hid (Below.refl W13.heap.size W13).drew
    go_region_with (first | (go_at_call 16; refine (HN2.out _).mono ?_; rintro e v8 ⟨hv8, Q, Z3, Z4, rfl, hr8, m1, m1', m2, m2', j1, j2⟩; obtain ⟨q0, q1, q2, q3, q4, q5, q6, q7⟩ := blk8c ((hv8.block B7 hltB).trans HY13.out); simp only [itV, mapR]) | (go_at_call 10; refine (flat_two (RdRows.below HU13.out (HD13.out.trans hv8)) (HT13.out.1.below HT13.out.2 (HD13.out.trans hv8)) (Nat.lt_of_lt_of_le HT13.out.2 hv8.size) hr8 j1 m1' j2 m2').mono ?_; rintro e v9 ⟨A9, c9, rfl, hv9⟩))
    all_goals
      have hb := (HD13.out.trans hv8).trans (hv9.mono hv8.size)
      have HB14 := Lib.hid (HB13.out.trans (hb.mono HB13.out.size))
      have HJ14 := Lib.hid (And.intro (HJ13.out.1.below HJ13.out.2 hb) (Nat.lt_of_lt_of_le HJ13.out.2 hb.size))
      have HX14 := Lib.hid ((hb.block B5 HL13.out).trans HX13.out)
      have HY14 := Lib.hid ((hb.block B7 hltB).trans HY13.out)
      clear hb hv8 hv9 hr8 m1 m1' m2 m2' j1 j2 q0 q1 q2 q3 q4 q5 q6 q7 c0 c1 c2 c3 c4' c5' c6 c7' HB13 HJ13 HX13 HY13 HL13 HU13 HT13 HD13 hltB HN2
      have HL14 := Lib.hid (lt_of_block HX14.out)
      have HM14 := Lib.hid (lt_of_block HY14.out)
      go_wp2_with fail
      refine (txt_any _ _).mono ?_
      rintro e v10 ⟨hb, hlt, rfl, hi⟩
      have HB15 := Lib.hid (HB14.out.trans (hb.mono HB14.out.size))
      have HJ15 := Lib.hid (And.intro (HJ14.out.1.below HJ14.out.2 hb) (Nat.lt_of_lt_of_le HJ14.out.2 hb.size))
      have HX15 := Lib.hid ((hb.block B5 HL14.out).trans HX14.out)
      have HY15 := Lib.hid ((hb.block B7 HM14.out).trans HY14.out)
      have HT15 := Lib.hid (And.intro hi hlt)
      clear hb hi hlt HB14 HJ14 HX14 HY14 HL14 HM14
      have HL15 := Lib.hid (lt_of_block HX15.out)
      have HM15 := Lib.hid (lt_of_block HY15.out)
      go_wp2_with fail
      refine (same_txt HJ15.out.1 HJ15.out.2 HT15.out.1 HT15.out.2).mono ?_
      rintro e v11 ⟨rfl, hb⟩
      have HB16 := Lib.hid (HB15.out.trans (hb.mono HB15.out.size))
      obtain ⟨c0, c1, c2, c3, c4', c5', c6, c7'⟩ := blk8c ((hb.block B5 HL15.out).trans HX15.out)
      obtain ⟨q0, q1, q2, q3, q4, q5, q6, q7⟩ := blk8c ((hb.block B7 HM15.out).trans HY15.out)
      clear hb HB15 HJ15 HX15 HY15 HT15 HL15 HM15
      go_wp2
      go_ret
      exact ⟨rB rfl, HB16.out⟩
end Go.Proofs.YtahidclhplmkiaaGreatDoor
