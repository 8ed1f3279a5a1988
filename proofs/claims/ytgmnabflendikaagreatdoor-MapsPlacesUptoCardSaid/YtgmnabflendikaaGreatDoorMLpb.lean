/- The law MapsPlaces: always true. -/
import Derived.Test.YtgmnabflendikaaGreatDoorMLpa
namespace Go.Proofs.YtgmnabflendikaaGreatDoor
open Go.RowKit
set_option linter.unusedVariables false
set_option linter.unusedSimpArgs false

theorem ibx_arr {W : World} {X : Nat} {u : Value} (h : IBx W X (aR u)) : (W.cell? ⟨X, 0, none⟩ = some (.int .i64 3) ∧ W.cell? ⟨X, 1, none⟩ = some (.int .i64 0) ∧ W.cell? ⟨X, 2, none⟩ = some (.string { data := #[] }) ∧ W.cell? ⟨X, 3, none⟩ = some (.int .i64 0) ∧ W.cell? ⟨X, 4, none⟩ = some (.int .i64 0) ∧ W.cell? ⟨X, 5, none⟩ = some (.slice none 0 0) ∧ W.cell? ⟨X, 6, none⟩ = some u ∧ W.cell? ⟨X, 7, none⟩ = some (.pointer none)) ∧ X < W.heap.size := IBx.cells h
set_option maxRecDepth 100000 in
set_option maxHeartbeats 8000000 in
theorem lawPlaces_any {w : World} {d : Nat} {ms : List Value} {mv : Value} {nm bm : Nat} {fm : List IRow} {v : Value} {nv bv : Nat} {fv : List IRow} (hm : RdM w ms mv) (hs : MemS w d ms nm bm fm) (hv : SqR w d v nv bv fv) (hnm : nm ≤ 3000000) (hbm : bm ≤ 40000000) (hnv : nv ≤ 4000000) (hbv : bv ≤ 40000000) (q : Nat) (hq : q < 65536) :
    Calls Tryz.prog 4 #[mv, .int .u16 (q : Int), v] w fun e w' => e = .returned (.bool true) ∧ Below w.heap.size w w' := by
  obtain ⟨Av, mvv, cv, rfl, hmvv⟩ := sq_form hv
  obtain ⟨A, c, rfl, hcap⟩ := hm.form
  have HM := Lib.hid hm
  have HS := Lib.hid hs
  have HV := Lib.hid hv
  have hlen := mem_len hs
  have HN := Lib.hid (show nm ≤ 3000000 ∧ bm ≤ 40000000 ∧ nv ≤ 4000000 ∧ bv ≤ 40000000 from ⟨hnm, hbm, hnv, hbv⟩)
  have HLN := Lib.hid hlen
  clear hm hs hv hnm hbm hnv hbv hcap hlen
  generalize hl : ms.length = m at *
  have HL := Lib.hid hl
  clear hl
  go_enter Tryz.func4, Tryz.ntmps4
  go_wp2_with fail
  obtain ⟨W2, hW2⟩ : ∃ W2, (w.alloc (.cells #[.int .i64 3, .int .i64 0, .string { data := #[] }, .int .i64 0, .int .i64 0, .slice none 0 0, .slice A m c, .pointer none] 28)).alloc (.cells #[.int .i64 3, .int .i64 0, .string { data := #[] }, .int .i64 0, .int .i64 0, .slice none 0 0, .slice A m c, .pointer none] 28) = W2 := ⟨_, rfl⟩
  have hb2 : Below w.heap.size w W2 := hW2 ▸ (box1 w 28 #[.int .i64 3, .int .i64 0, .string { data := #[] }, .int .i64 0, .int .i64 0, .slice none 0 0, .slice A m c, .pointer none]).alloc (by simp) _
  have x0 : W2.heap[w.heap.size]? = some (.cells #[.int .i64 3, .int .i64 0, .string { data := #[] }, .int .i64 0, .int .i64 0, .slice none 0 0, .slice A m c, .pointer none] 28) := hW2 ▸ hp_past (hp_new rfl)
  have x1 : W2.heap[w.heap.size + 1]? = some (.cells #[.int .i64 3, .int .i64 0, .string { data := #[] }, .int .i64 0, .int .i64 0, .slice none 0 0, .slice A m c, .pointer none] 28) := hW2 ▸ hp_new (by simp)
  have hz2 : w.heap.size + 1 + 1 = W2.heap.size := by rw [← hW2]; simp
  rw [hW2, hz2]
  have h0 : SqR W2 (d + 1) (.slice (some ⟨w.heap.size + 1, 0, none⟩) 1 1) (1 + nm) bm fm := one_sq (aR_it (RdRows.below HM.out hb2) (MemS.below hb2 HS.out)) (icells_at x1) (lt_of_block x1)
  have hb3 := box1 W2 29 #[.slice (some ⟨w.heap.size + 1, 0, none⟩) 1 1, .slice Av mvv cv]
  have HB2 := Lib.hid (hb2.trans (hb3.mono hb2.size))
  have X02 := Lib.hid (IBx.go (x := aR (.slice A m c)) x0 hb3)
  have HLI := Lib.hid (light_any [(1 + nm, bm), (nv, bv)] [.slice (some ⟨w.heap.size + 1, 0, none⟩) 1 1, .slice Av mvv cv] _ _ (memLit W2 [.slice (some ⟨w.heap.size + 1, 0, none⟩) 1 1, .slice Av mvv cv] 2 rfl (by omega)) ⟨rfl, fun j hj => by
    have : j = 0 ∨ j = 1 := by simp at hj; omega
    rcases this with rfl | rfl
    · exact ⟨d + 1, fm, SqR.below hb3 _ h0, (show 1 + nm ≤ 4000000 by have := HN.out.1; omega), HN.out.2.1⟩
    · exact ⟨d, fv, SqR.below (hb2.trans (hb3.mono hb2.size)) _ HV.out, HN.out.2.2.1, HN.out.2.2.2⟩⟩ (by simp))
  clear hW2 hb2 x0 x1 hz2 h0 hb3
  refine HLI.out.mono ?_
  rintro e w4 ⟨rfl, hb4⟩
  have HB4 := Lib.hid (HB2.out.trans (hb4.mono HB2.out.size))
  have X04 := Lib.hid (X02.out.go hb4)
  clear hb4 HLI HB2 X02
  cases hl : lightB [(1 + nm, bm), (nv, bv)] with
  | false =>
    clear hl
    go_wp2_with fail
    refine (works_any _).mono ?_
    rintro e w5 ⟨rfl, hb5⟩
    have HB5 := Lib.hid (HB4.out.trans (hb5.mono HB4.out.size))
    clear hb5
    go_wp2
    go_ret
    exact ⟨rB rfl, HB5.out⟩
  | true =>
    have hnb : 1 + nm + nv ≤ 1000 ∧ bm + bv ≤ 100000 := by simpa [lightB] using hl
    have hm1 : m ≤ 1000 := by have := HLN.out; omega
    obtain ⟨p, hp⟩ : ∃ p, p = q % (m + 1) := ⟨_, rfl⟩
    have hpm : p ≤ m := by have := Nat.mod_lt q (show 0 < m + 1 by omega); omega
    have HP := Lib.hid hpm
    have HNN := Lib.hid hnb
    clear hl hnb
    obtain ⟨⟨q0, q1, q2, q3, q4, q5, q6, q7⟩, qlt⟩ := ibx_arr X04.out
    go_wp2_with fail
    have hi : wrap64 (1 + (q : Int) % ((m : Int) + 1)) = (p : Int) + 1 := by
      have e : ((p : Nat) : Int) = (q : Int) % ((m : Int) + 1) := by rw [hp]; simp
      rw [← e]
      unfold wrap64
      omega
    rw [hi]
    clear hi hp hq
    refine (insPl HM.out HS.out HV.out HL.out hpm HNN.out.1 HNN.out.2 HB4.out).mono ?_
    rintro e w5 ⟨Ab, cb, rfl, hr5, hb5⟩
    have HB5 := Lib.hid (HB4.out.trans (hb5.mono HB4.out.size))
    have X05 := Lib.hid (X04.out.go hb5)
    have HR5 := Lib.hid hr5
    clear hr5 hb5 HB4 X04
    clear q0 q1 q2 q3 q4 q5 q6 q7 qlt
    obtain ⟨⟨q0, q1, q2, q3, q4, q5, q6, q7⟩, qlt⟩ := ibx_arr X05.out
    simp only [itV, aR]
    go_wp2_with fail
    obtain ⟨W6, hW6⟩ : ∃ W6, w5.alloc (.cells #[.int .i64 3, .int .i64 0, .string { data := #[] }, .int .i64 0, .int .i64 0, .slice none 0 0, .slice Ab (m + 1) cb, .pointer none] 28) = W6 := ⟨_, rfl⟩
    have hb6 : Below w5.heap.size w5 W6 := hW6 ▸ box1 _ _ _
    have S6 := Lib.hid (show PlT w W6 ms p (.slice Av mvv cv) (.slice A m c) (.slice Ab (m + 1) cb) w.heap.size w5.heap.size from
      ⟨HB5.out.trans (hb6.mono HB5.out.size), RdRows.below HM.out (HB5.out.trans (hb6.mono HB5.out.size)), X05.out.go hb6, RdRows.below HR5.out hb6, hW6 ▸ hp_new rfl⟩)
    rw [hW6]
    clear hW6 hb6 HB5 X05 HR5
    clear q0 q1 q2 q3 q4 q5 q6 q7 qlt
    generalize w5.heap.size = BB at *
    have HLI := Lib.hid (show (insL ms p (.slice Av mvv cv)).length = m + 1 by rw [insL_len _ (by rw [HL.out]; exact hpm), HL.out])
    refine (atHere_any (.slice Ab (m + 1) cb) (insL ms p (.slice Av mvv cv)) p W6 S6.out.i (by rw [HLI.out]; omega) (by rw [HLI.out]; omega) (.slice Av mvv cv) (ins_getD_at ms p _ (by rw [HL.out]; exact hpm) _) _ rfl).mono ?_
    rintro e w7 ⟨rfl, hb7⟩
    have S7 := Lib.hid (S6.out.go hb7)
    clear hb7 S6
    obtain ⟨⟨q0, q1, q2, q3, q4, q5, q6, q7⟩, qlt⟩ := ibx_arr S7.out.o
    go_wp2_with fail
    refine (delPl HS.out rfl HL.out hpm (by have := HNN.out; omega) S7.out.i).mono ?_
    rintro e w8 ⟨Ac, cc, rfl, hr8, hb8⟩
    have S8 := Lib.hid (S7.out.go hb8)
    have HC8 := Lib.hid hr8
    clear hr8 hb8 S7
    clear q0 q1 q2 q3 q4 q5 q6 q7 qlt
    obtain ⟨⟨q0, q1, q2, q3, q4, q5, q6, q7⟩, qlt⟩ := ibx_arr S8.out.a
    simp only [itV, aR]
    go_wp2_with fail
    obtain ⟨W9, hW9⟩ : ∃ W9, w8.alloc (.cells #[.int .i64 3, .int .i64 0, .string { data := #[] }, .int .i64 0, .int .i64 0, .slice none 0 0, .slice Ac m cc, .pointer none] 28) = W9 := ⟨_, rfl⟩
    have hb9 : Below w8.heap.size w8 W9 := hW9 ▸ box1 _ _ _
    have S9 := Lib.hid (S8.out.go hb9)
    have HC9 := Lib.hid (RdRows.below HC8.out hb9)
    have XC9 := Lib.hid (show IBx W9 w8.heap.size (aR (.slice Ac m cc)) from hW9 ▸ hp_new rfl)
    rw [hW9]
    clear hW9 hb9 S8 HC8
    clear q0 q1 q2 q3 q4 q5 q6 q7 qlt
    generalize w8.heap.size = BC at *
    refine (sameSq_any (sqD_below ⟨_, _, _, HV.out⟩ S9.out.b)).mono ?_
    rintro e w10 ⟨rfl, hb10⟩
    have S10 := Lib.hid (S9.out.go hb10)
    have HC10 := Lib.hid (show RdM w10 ms (.slice Ac m cc) from RdRows.below HC9.out hb10)
    have XC10 := Lib.hid (XC9.out.go hb10)
    clear hb10 S9 HC9 XC9
    obtain ⟨⟨q0, q1, q2, q3, q4, q5, q6, q7⟩, qlt⟩ := ibx_arr S10.out.a
    obtain ⟨⟨r0, r1, r2, r3, r4, r5, r6, r7⟩, rlt⟩ := ibx_arr XC10.out
    go_wp2_with fail
    refine (same_any (x := aR (.slice Ac m cc)) (y := aR (.slice A m c)) ⟨.aR HC10.out, .aR S10.out.m, .arr rfl (.inr (.inr rfl)) HC10.out S10.out.m (fun p hp => sqD_below (mem_sq HS.out p hp) S10.out.b)⟩).mono ?_
    rintro e w11 ⟨rfl, hb11⟩
    have S11 := Lib.hid (S10.out.go hb11)
    clear hb11 S10 HC10 XC10
    clear q0 q1 q2 q3 q4 q5 q6 q7 qlt
    clear r0 r1 r2 r3 r4 r5 r6 r7 rlt
    go_wp2
    go_loopw [15] (fun k wr => ∃ j : Nat, j ≤ m ∧ k = .int .i64 ((j : Int) + 1) ∧ Hid (PlT w wr ms p (.slice Av mvv cv) (.slice A m c) (.slice Ab (m + 1) cb) w.heap.size BB)) (fun k _ => (m + 1) - (intOf k).toNat)
    case atStart => exact ⟨0, Nat.zero_le _, rfl, S11⟩
    case round =>
      obtain ⟨j, hj, rfl, HR⟩ := hrel
      clear S11
      by_cases hlt : j < m
      · obtain ⟨y, hy⟩ : ∃ y, ms.getD j (.slice none 0 0) = y := ⟨_, rfl⟩
        have HY := Lib.hid hy
        have hyd : SqD w d y := by
          rw [← hy, List.getD_eq_getElem?_getD, List.getElem?_eq_getElem (by rw [HL.out]; exact hlt)]
          exact mem_sq HS.out _ (List.getElem_mem _)
        have HYD := Lib.hid hyd
        clear hy hyd
        obtain ⟨⟨q0, q1, q2, q3, q4, q5, q6, q7⟩, qlt⟩ := ibx_arr HR.out.a
        go_wp2_with fail
        refine (atHere_any (.slice A m c) ms j wr HR.out.m (by rw [HL.out]; exact hlt) (by rw [HL.out]; omega) y HY.out _ rfl).mono ?_
        rintro e w12 ⟨rfl, hb12⟩
        have S12 := Lib.hid (HR.out.go hb12)
        clear hb12 HR q0 q1 q2 q3 q4 q5 q6 q7 qlt
        obtain ⟨⟨q0, q1, q2, q3, q4, q5, q6, q7⟩, qlt⟩ := ibx_arr S12.out.o
        by_cases hjp : p ≤ j
        · have t1 : (p : Int) ≤ (j : Int) := by omega
          go_wp2_with fail
          refine (atHere_any (.slice Ab (m + 1) cb) (insL ms p (.slice Av mvv cv)) (j + 1) w12 S12.out.i (by rw [HLI.out]; omega) (by rw [HLI.out]; omega) y (by rw [ins_getD_hi ms p j _ _ (by rw [HL.out]; exact hpm) (by omega)]; exact HY.out) _ (by simp)).mono ?_
          rintro e w13 ⟨rfl, hb13⟩
          have S13 := Lib.hid (S12.out.go hb13)
          clear hb13 S12 q0 q1 q2 q3 q4 q5 q6 q7 qlt
          obtain ⟨bI, off, v', rfl, hbI, hget, hdrop, hcell⟩ := RdM.row HM.out S13.out.b hlt
          obtain rfl : y = v' := by have := HY.out; rw [List.getD_eq_getElem?_getD, hget] at this; exact this.symm
          clear hget hdrop
          go_wp2_with fail
          refine (sameSq_any (sqD_below HYD.out S13.out.b)).mono ?_
          rintro e w14 ⟨rfl, hb14⟩
          have S14 := Lib.hid (S13.out.go hb14)
          clear hb14 S13 hcell
          go_wp2_with fail
          refine (sameSq_any (sqD_below HYD.out S14.out.b)).mono ?_
          rintro e w15 ⟨rfl, hb15⟩
          have S15 := Lib.hid (S14.out.go hb15)
          clear hb15 S14
          go_wp2
          go_roundw
          case rel => exact ⟨j + 1, by omega, by simp, S15⟩
          case measure => simp [intOf]; omega
        · have t1 : ¬ (p : Int) ≤ (j : Int) := by omega
          go_wp2_with fail
          refine (atHere_any (.slice Ab (m + 1) cb) (insL ms p (.slice Av mvv cv)) j w12 S12.out.i (by rw [HLI.out]; omega) (by rw [HLI.out]; omega) y (by rw [ins_getD_lo ms p j _ _ (by rw [HL.out]; exact hpm) (by omega)]; exact HY.out) _ (rfl)).mono ?_
          rintro e w13 ⟨rfl, hb13⟩
          have S13 := Lib.hid (S12.out.go hb13)
          clear hb13 S12 q0 q1 q2 q3 q4 q5 q6 q7 qlt
          obtain ⟨bI, off, v', rfl, hbI, hget, hdrop, hcell⟩ := RdM.row HM.out S13.out.b hlt
          obtain rfl : y = v' := by have := HY.out; rw [List.getD_eq_getElem?_getD, hget] at this; exact this.symm
          clear hget hdrop
          go_wp2_with fail
          refine (sameSq_any (sqD_below HYD.out S13.out.b)).mono ?_
          rintro e w14 ⟨rfl, hb14⟩
          have S14 := Lib.hid (S13.out.go hb14)
          clear hb14 S13 hcell
          go_wp2_with fail
          refine (sameSq_any (sqD_below HYD.out S14.out.b)).mono ?_
          rintro e w15 ⟨rfl, hb15⟩
          have S15 := Lib.hid (S14.out.go hb15)
          clear hb15 S14
          go_wp2
          go_roundw
          case rel => exact ⟨j + 1, by omega, by simp, S15⟩
          case measure => simp [intOf]; omega
      · obtain rfl : j = m := by omega
        have HB := Lib.hid HR.out.b
        clear HR
        go_wp2_with fail
        refine (works_any _).mono ?_
        rintro e w12 ⟨rfl, hb12⟩
        have HB12 := Lib.hid (HB.out.trans (hb12.mono HB.out.size))
        clear hb12
        go_wp2
        go_ret
        exact ⟨rB rfl, HB12.out⟩
end Go.Proofs.YtgmnabflendikaaGreatDoor
