/- Package atom: an untyped 1 or 2 cast to an integer (printed by gen_cst.py). -/
import Derived.Test.YtajkdllakleakaaGreatDoorMTc
import Derived.Test.YtajkdllakleakaaGreatDoorMTt
import Derived.Test.YtajkdllakleakaaGreatDoorDr
import Derived.Test.YtajkdllakleakaaGreatDoorMVi
namespace Go.Proofs.YtajkdllakleakaaGreatDoor
open Go.RowKit
set_option linter.unusedVariables false
set_option linter.unusedSimpArgs false

def OneTwo (s : ByteArray) : Prop := s = oS ∨ s = wS
theorem whole_ex {s : ByteArray} (h : OneTwo s) (W : World) : Calls Tryz.prog 74 #[.string s] W fun e w' => e = .returned (.tuple #[.string s, .bool true]) ∧ Below W.heap.size W w' := by
  rcases h with rfl | rfl
  · have := wholeRead_any [49] W (by decide +kernel)
    rwa [show wholeR [49] = ([49], true) by decide +kernel] at this
  · have := wholeRead_any [50] W (by decide +kernel)
    rwa [show wholeR [50] = ([50], true) by decide +kernel] at this
theorem trim_ex {s : ByteArray} (h : OneTwo s) (W : World) : Calls Tryz.prog 65 #[.string s, .string ⟨#[32, 9, 13, 10]⟩] W fun e w' => e = .returned (.string s) ∧ Below W.heap.size W w' := by
  rcases h with rfl | rfl
  · exact trim_any oS W (by decide)
  · exact trim_any wS W (by decide)
theorem isStr_any (k : Int) (w : World) : Calls Tryz.prog 56 #[.int .i64 k] w fun e w' => e = .returned (.bool (strB k)) ∧ w = w' := isString_any k w
theorem list8c {l : List Value} (h : l.length = 8) : ∃ y0 y1 y2 y3 y4 y5 y6 y7, l = [y0, y1, y2, y3, y4, y5, y6, y7] := by
  match l, h with
  | y0 :: y1 :: y2 :: y3 :: y4 :: y5 :: y6 :: y7 :: [], _ => exact ⟨y0, y1, y2, y3, y4, y5, y6, y7, rfl⟩
def cst (B : Nat) (s : ByteArray) : Nat → Value → World → Prop
  | 0 => fun v _ => v = .int .i64 3
  | 1 => fun v _ => v = .func (.func 74) #[] #[]
  | 2 => fun v _ => v = .pointer (some ⟨B, 1, none⟩)
  | 3 => fun v _ => v = .string s
  | 4 => fun v _ => v = .string s
  | 5 => fun v _ => v = .tuple #[.string s, .bool true]
  | 6 => fun v _ => v = .string s
  | 7 => fun v _ => v = .bool true
  | _ => fun _ _ => True
theorem cstm (B : Nat) (s : ByteArray) (jx : Nat) (v : Value) (w w' : World) (hb : Below w.heap.size w w') (h : cst B s jx v w) : cst B s jx v w' := by
  unfold cst at h ⊢
  split at h
  all_goals first | exact h | trivial
set_option maxRecDepth 100000 in
set_option maxHeartbeats 2000000 in
theorem cast_ex {s : ByteArray} (hs : OneTwo s) (w : World) : Calls Tryz.prog 53 #[.agg #[.int .i64 0, .string s], .int .i64 3] w fun e w' => e = .returned (.tuple #[.string s, .bool true]) ∧ Below w.heap.size w w' := by
  have HS := Lib.hid hs
  have HB0 := Lib.hid (box1 w 24 #[.int .i64 0, .string s])
  have C1 : Hid ((w.alloc (.cells #[.int .i64 0, .string s] 24)).cell? ⟨w.heap.size, 1, none⟩ = some (.string s)) := Lib.hid (cell_of_row _ _ 1 _ _ _ (hp_new rfl))
  have HBl : Hid (w.heap.size < (w.alloc (.cells #[.int .i64 0, .string s] 24)).heap.size) := Lib.hid (by simp)
  clear hs
  go_enter Tryz.func53, Tryz.ntmps53
  go_wp2_with (go_at_call 56; refine (isString_any _ _).mono ?_; rintro e w' ⟨rfl, rfl⟩)
  generalize (w.alloc (.cells #[.int .i64 0, .string s] 24)) = W0 at *
  generalize hB : w.heap.size = B at *
  refine wp_region_drawn (by kernel_rfl) 8 43 [22, 23, 24, 25, 26, 27, 28, 29] (cst B s) rfl (by kernel_rfl) (cstm _ _) ?_ ?_
  · intro i o hi ho ys W hys hb hdep
    obtain ⟨y0, y1, y2, y3, y4, y5, y6, y7, rfl⟩ := list8c hys
    have hi' : i = 0 ∨ i = 1 ∨ i = 2 ∨ i = 3 ∨ i = 4 ∨ i = 5 ∨ i = 6 ∨ i = 7 := by omega
    simp only [setM, List.setIfInBounds_toArray, List.set_cons_zero, List.set_cons_succ]
    rcases hi' with rfl | rfl | rfl | rfl | rfl | rfl | rfl | rfl
    · cases ho
      go_wp2
      exact ⟨rfl, _, rfl, Below.refl _ _, rfl⟩
    · cases ho
      obtain rfl : y0 = .int .i64 3 := hdep 0 (by omega) (by kernel_rfl)
      go_wp2_with fail
      refine (vreader3 _).mono ?_
      rintro e w1 ⟨rfl, rfl⟩
      go_wp2
      exact ⟨rfl, _, rfl, Below.refl _ _, rfl⟩
    · cases ho
      go_wp2
      exact ⟨rfl, _, rfl, Below.refl _ _, rfl⟩
    · cases ho
      obtain rfl : y2 = .pointer (some ⟨B, 1, none⟩) := hdep 2 (by omega) (by kernel_rfl)
      have c1 := (hb.cell (p := ⟨B, 1, none⟩) HBl.out).trans C1.out
      go_wp2
      exact ⟨rfl, _, rfl, Below.refl _ _, rfl⟩
    · cases ho
      obtain rfl : y3 = .string s := hdep 3 (by omega) (by kernel_rfl)
      go_wp2_with fail
      refine (trim_ex HS.out _).mono ?_
      rintro e w1 ⟨rfl, hb1⟩
      go_wp2
      exact ⟨rfl, _, rfl, hb1, rfl⟩
    · cases ho
      obtain rfl : y1 = .func (.func 74) #[] #[] := hdep 1 (by omega) (by kernel_rfl)
      obtain rfl : y4 = .string s := hdep 4 (by omega) (by kernel_rfl)
      go_wp2_with fail
      refine (whole_ex HS.out _).mono ?_
      rintro e w1 ⟨rfl, hb1⟩
      go_wp2
      exact ⟨rfl, _, rfl, hb1, rfl⟩
    · cases ho
      obtain rfl : y5 = .tuple #[.string s, .bool true] := hdep 5 (by omega) (by kernel_rfl)
      go_wp2
      exact ⟨rfl, _, rfl, Below.refl _ _, rfl⟩
    · cases ho
      obtain rfl : y5 = .tuple #[.string s, .bool true] := hdep 5 (by omega) (by kernel_rfl)
      go_wp2
      exact ⟨rfl, _, rfl, Below.refl _ _, rfl⟩
  · intro ys W hys hb hall
    obtain ⟨y0, y1, y2, y3, y4, y5, y6, y7, rfl⟩ := list8c hys
    simp only [setM, List.setIfInBounds_toArray, List.set_cons_zero, List.set_cons_succ]
    obtain rfl : y6 = .string s := hall 6 (by omega)
    obtain rfl : y7 = .bool true := hall 7 (by omega)
    clear hall
    simp only [List.drop_succ_cons, List.drop_zero]
    have hbw := HB0.out.trans (hb.mono (by have := HBl.out; omega))
    go_wp2
    go_ret2
    exact ⟨rfl, by first | exact hbw | (rw [hB]; exact hbw) | (rw [← hB]; exact hbw)⟩
set_option maxRecDepth 100000 in
theorem Cast_ex {s : ByteArray} (hs : OneTwo s) (w : World) : Calls Tryz.prog 30 #[.agg #[.int .i64 0, .string s], .int .i64 3] w fun e w' => e = .returned (.tuple #[.agg #[.int .i64 3, .string s], .int .i64 0]) ∧ Below w.heap.size w w' := by
  have HS := Lib.hid hs
  have ht : isTextB s = true := by rcases hs with rfl | rfl <;> decide +kernel
  have hz : s.size ≤ 1000 := by rcases hs with rfl | rfl <;> decide
  have HV : Hid (∀ W, Calls Tryz.prog 44 #[.agg #[.int .i64 0, .string s]] W fun e w' => e = .returned (.bool true) ∧ Below W.heap.size W w') := Lib.hid fun W => by
    have HT : Hid (∀ V, Calls Tryz.prog 57 #[.string s] V fun e w' => e = .returned (.bool true) ∧ Below V.heap.size V w') := Lib.hid fun V => text_ok s V hz ht
    clear ht hz HS hs
    go_enter Tryz.func44, Tryz.ntmps44
    go_wp2_with fail
    refine (isString_any _ _).mono ?_
    rintro e w' ⟨rfl, rfl⟩
    go_wp2_with fail
    refine (HT.out _).mono ?_
    rintro e w1 ⟨rfl, hb⟩
    have HB := Lib.hid ((box1 W _ _).trans (hb.mono (by simp)))
    clear hb
    go_wp2
    go_ret
    exact ⟨rfl, HB.out⟩
  clear hs ht hz
  have hb0 : Below w.heap.size w ((w.alloc (.cells #[.int .i64 0, .string s] 24)).alloc (.cells #[.int .i64 0, .string eS] 24)) := ((Below.refl _ w).alloc (Nat.le_refl _) _).alloc (by simp) _
  go_enter Tryz.func30, Tryz.ntmps30
  go_wp2_with fail
  refine (HV.out _).mono ?_
  rintro e w1 ⟨rfl, hb⟩
  have HB1 := Lib.hid (hb0.trans (hb.mono (by simp <;> omega)))
  have HX := Lib.hid ((hb.block w.heap.size (by simp <;> omega)).trans (hp_past (o := .cells #[.int .i64 0, .string eS] 24) (hp_new (w := w) (o := .cells #[.int .i64 0, .string s] 24) rfl)))
  have HY := Lib.hid ((hb.block (w.heap.size + 1) (by simp <;> omega)).trans (hp_new (w := w.alloc (.cells #[.int .i64 0, .string s] 24)) (o := .cells #[.int .i64 0, .string eS] 24) (by simp)))
  clear hb hb0
  have lt1 : w.heap.size + 1 < w1.heap.size := (Array.getElem?_eq_some_iff.1 HY.out).1
  have a0 : w1.cell? ⟨w.heap.size, 0, none⟩ = some (.int .i64 0) := cell_of_row _ _ 0 _ _ _ HX.out
  have a1 : w1.cell? ⟨w.heap.size, 1, none⟩ = some (.string s) := cell_of_row _ _ 1 _ _ _ HX.out
  go_wp2_with fail
  refine (cast_ex HS.out _).mono ?_
  rintro e w2 ⟨rfl, hb⟩
  have HB2 := Lib.hid (HB1.out.trans (hb.mono HB1.out.size))
  have HY2 := Lib.hid ((hb.block _ lt1).trans HY.out)
  clear hb HB1 HX HY a0 a1
  have b0 : w2.cell? ⟨w.heap.size + 1, 0, none⟩ = some (.int .i64 0) := cell_of_row _ _ 0 _ _ _ HY2.out
  have b1 : w2.cell? ⟨w.heap.size + 1, 1, none⟩ = some (.string eS) := cell_of_row _ _ 1 _ _ _ HY2.out
  have fr : ∀ i, w2.frozen? ⟨w.heap.size + 1, i, none⟩ = false := fun i => by simp [World.frozen?, HY2.out]
  go_wp2
  obtain ⟨k1, k2⟩ := two_stored (x := .int .i64 3) (y := .string s) b0 b1
  refine bodyPost_ret (v := .tuple #[.agg #[.int .i64 3, .string s], .int .i64 0]) ?_ rfl ⟨rfl, ?_⟩
  · simp [results, Tryz.results30, go_sem, k1, k2]
  · exact (HB2.out.setCell (p := ⟨w.heap.size + 1, 0, none⟩) (by simp) _).setCell (p := ⟨w.heap.size + 1, 1, none⟩) (by simp) _
end Go.Proofs.YtajkdllakleakaaGreatDoor
