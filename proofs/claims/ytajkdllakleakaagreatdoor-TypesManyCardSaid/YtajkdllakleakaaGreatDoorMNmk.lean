/- Package num: checked and text. -/
import Derived.Test.YtajkdllakleakaaGreatDoorM6
namespace Go.Proofs.YtajkdllakleakaaGreatDoor
open Go.RowKit
set_option linter.unusedVariables false
set_option linter.unusedSimpArgs false

theorem rd_nil (w : World) : RdB w (.slice none 0 0) (words 0) := by
  rw [words_zero]
  exact ⟨none, 0, rfl, Nat.le_refl _, fun h => absurd h (by decide)⟩
/-- What checked hands back. -/
def CheckQ (neg : Bool) (d : Nat) (v : Value) (w : World) (e : Ending) (w' : World) : Prop :=
  if 10 ^ 50 ≤ d then e = .returned (.tuple #[.agg #[.bool false, .slice none 0 0], .int .i64 40]) ∧ Below w.heap.size w w'
  else e = .returned (.tuple #[.agg #[.bool (neg && decide (0 < d)), v], .int .i64 0]) ∧ Below w.heap.size w w'
theorem words_len_big (d k : Nat) (h : d < bs ^ k) : (words d).length ≤ k := words_len_lt d k h
theorem words_len_zero (d : Nat) : (words d).length = 0 ↔ d = 0 := by
  constructor
  · intro h
    rcases Nat.eq_zero_or_pos d with e | e
    · exact e
    · rw [words_pos e] at h; simp at h
  · rintro rfl; rw [words_zero]; rfl
theorem ten_lenk (n k : Nat) (h : n ≤ k) : (words (10 ^ n)).length ≤ k + 1 := by
  apply words_len_lt
  have h1 : (10 : Nat) ^ n ≤ 10 ^ k := Nat.pow_le_pow_right (by omega) h
  have h2 : (10 : Nat) ^ k ≤ bs ^ k := Nat.pow_le_pow_left (by unfold bs; omega) k
  have h3 : bs ^ k < bs ^ (k + 1) := Nat.pow_lt_pow_right (by unfold bs; omega) (by omega)
  omega
theorem ten_len (n : Nat) (h : n ≤ 1000) : (words (10 ^ n)).length ≤ 1001 := ten_lenk n 1000 h
/-- A struct of two cells that has just been stored reads as it was stored. -/
theorem two_stored {w : World} {b : Nat} {x y u v : Value} (h0 : w.cell? ⟨b, 0, none⟩ = some u) (h1 : w.cell? ⟨b, 1, none⟩ = some v) :
    ((w.setCell ⟨b, 0, none⟩ x).setCell ⟨b, 1, none⟩ y).cell? ⟨b, 0, none⟩ = some x ∧ ((w.setCell ⟨b, 0, none⟩ x).setCell ⟨b, 1, none⟩ y).cell? ⟨b, 1, none⟩ = some y := by
  have e1 : (w.setCell ⟨b, 0, none⟩ x).cell? ⟨b, 1, none⟩ = some v := by rw [st_other (by simp)]; exact h1
  refine ⟨?_, st_same e1⟩
  rw [st_other (by simp)]
  exact st_same h0
set_option maxRecDepth 100000 in
set_option maxHeartbeats 2000000 in
theorem checked_any (neg : Bool) (d : Nat) (v : Value) (w : World) (h : RdB w v (words d)) (hd : (words d).length ≤ 100000) :
    Calls Tryz.prog 171 #[.agg #[.bool neg, v]] w (CheckQ neg d v w) := by
  have H := Lib.hid h
  obtain ⟨A, c, rfl, -, -⟩ := h
  have HD := Lib.hid (words_len_zero d)
  have HDL := Lib.hid hd
  generalize hn : (words d).length = n at *
  have HN := Lib.hid hn
  clear hn
  go_enter Tryz.func171, Tryz.ntmps171
  go_wp2
  go_region_with (first
    | (go_at_call 162
       refine (pow10_any 50 _ (by omega)).mono ?_
       rintro e w1 ⟨u, rfl, hr, hb, -⟩
       have B1 : Below w.heap.size w w1 := by
         refine Below.trans ?_ (hb.mono (by simp; omega))
         repeat (first | (with_reducible exact Below.refl _ _) | (with_reducible apply Below.drew) | (refine Below.alloc ?_ (by simp) _))
       have c0 : w1.cell? ⟨w.heap.size, 0, none⟩ = some (.bool neg) := (hb.cell (p := ⟨w.heap.size, 0, none⟩) (by simp; omega)).trans (by simp)
       have c1 : w1.cell? ⟨w.heap.size, 1, none⟩ = some (.slice A n c) := (hb.cell (p := ⟨w.heap.size, 1, none⟩) (by simp; omega)).trans (by simp)
       have f0 : w1.frozen? ⟨w.heap.size, 0, none⟩ = false := (hb.frozen (p := ⟨w.heap.size, 0, none⟩) (by simp; omega)).trans (by simp)
       have c2 : w1.cell? ⟨w.heap.size + 1, 0, none⟩ = some (.bool false) := (hb.cell (p := ⟨w.heap.size + 1, 0, none⟩) (by simp)).trans (by simp)
       have c3 : w1.cell? ⟨w.heap.size + 1, 1, none⟩ = some (.slice none 0 0) := (hb.cell (p := ⟨w.heap.size + 1, 1, none⟩) (by simp)).trans (by simp)
       have f2 : w1.frozen? ⟨w.heap.size + 1, 0, none⟩ = false := (hb.frozen (p := ⟨w.heap.size + 1, 0, none⟩) (by simp)).trans (by simp)
       have f3 : w1.frozen? ⟨w.heap.size + 1, 1, none⟩ = false := (hb.frozen (p := ⟨w.heap.size + 1, 1, none⟩) (by simp)).trans (by simp)
       have hz1 : w.heap.size + 1 < w1.heap.size := by have := hb.size; simp at this; omega
       have R1 := Lib.hid (H.out.below B1)
       have R2 := Lib.hid hr
       clear hr hb)
    | (go_at_call 216
       refine (cmp_any d (10 ^ 50) _ _ _ (R1.out.below (by first | exact Below.refl _ _ | exact (Below.refl _ _).drew)) (R2.out.below (by first | exact Below.refl _ _ | exact (Below.refl _ _).drew)) (by have := HN.out; have := HDL.out; omega) (by have := ten_len 50 (by omega); omega)).mono ?_
       rintro e w2 ⟨z, rfl, hz, hb2⟩))
  all_goals
    have d0 := (hb2.cell (p := ⟨w.heap.size, 0, none⟩) (by first | omega | (simp; omega))).trans (by first | exact c0 | simpa using c0)
    have d1 := (hb2.cell (p := ⟨w.heap.size, 1, none⟩) (by first | omega | (simp; omega))).trans (by first | exact c1 | simpa using c1)
    have g0 := (hb2.frozen (p := ⟨w.heap.size, 0, none⟩) (by first | omega | (simp; omega))).trans (by first | exact f0 | simpa using f0)
    have d2 := (hb2.cell (p := ⟨w.heap.size + 1, 0, none⟩) (by first | omega | (simp; omega))).trans (by first | exact c2 | simpa using c2)
    have d3 := (hb2.cell (p := ⟨w.heap.size + 1, 1, none⟩) (by first | omega | (simp; omega))).trans (by first | exact c3 | simpa using c3)
    have g2 := (hb2.frozen (p := ⟨w.heap.size + 1, 0, none⟩) (by first | omega | (simp; omega))).trans (by first | exact f2 | simpa using f2)
    have g3 := (hb2.frozen (p := ⟨w.heap.size + 1, 1, none⟩) (by first | omega | (simp; omega))).trans (by first | exact f3 | simpa using f3)
    have hz2 : w.heap.size + 1 < w2.heap.size := by have := hb2.size; first | omega | (simp at this; omega)
    have R3 := Lib.hid (R1.out.below (w1 := w2) (by first | exact hb2 | exact (Below.trans ((Below.refl _ _).drew) hb2)))
    have B2 := Lib.hid (B1.trans (Below.mono (by first | exact hb2 | exact (Below.trans ((Below.refl _ _).drew) hb2)) B1.size))
    have HZ := Lib.hid hz
    clear hb2 hz c0 c1 c2 c3 f0 f2 f3 R1 R2 B1 hz1
    by_cases hbig : 10 ^ 50 ≤ d
    · have hz0 : 0 ≤ z := by have := HZ.out.1; omega
      go_wp2
      obtain ⟨k1, k2⟩ := two_stored (x := .bool false) (y := .slice none 0 0) d2 d3
      refine bodyPost_ret (v := .tuple #[.agg #[.bool false, .slice none 0 0], .int .i64 40]) (by simp [results, Tryz.results171, go_sem, hz2, k1, k2]) rfl ?_
      unfold CheckQ
      rw [if_pos hbig]
      exact ⟨rfl, (B2.out.setCell (Nat.le_succ _) _).setCell (Nat.le_succ _) _⟩
    · have hz0 : ¬ 0 ≤ z := by have := HZ.out.1; omega
      have hzz : w.heap.size < w2.heap.size := by omega
      go_wp2
      · have k0 : ((w2.setCell ⟨w.heap.size, 0, none⟩ (.bool (decide (0 < n)))).setCell ⟨w.heap.size + 1, 0, none⟩ (.bool (decide (0 < n)))).cell? ⟨w.heap.size + 1, 0, none⟩ = some (.bool (decide (0 < n))) := st_same (by rw [st_other (by simp)]; exact d2)
        obtain ⟨k1, k2⟩ := two_stored (w := w2.setCell ⟨w.heap.size, 0, none⟩ (.bool (decide (0 < n)))) (b := w.heap.size + 1) (x := .bool (decide (0 < n))) (y := .slice A n c) (by rw [st_other (by simp)]; exact d2) (by rw [st_other (by simp)]; exact d3)
        refine bodyPost_ret (v := .tuple #[.agg #[.bool (decide (0 < n)), .slice A n c], .int .i64 0]) (by simp [results, Tryz.results171, go_sem, hz2, k0, k1, k2]) rfl ?_
        unfold CheckQ
        rw [if_neg hbig]
        have BF := (((B2.out.setCell (p := ⟨w.heap.size, 0, none⟩) (Nat.le_refl _) (.bool (decide (0 < n)))).setCell (p := ⟨w.heap.size + 1, 0, none⟩) (Nat.le_succ _) (.bool (decide (0 < n)))).setCell (p := ⟨w.heap.size + 1, 1, none⟩) (Nat.le_succ _) (.slice A n c))
        have e : (decide (0 < n)) = (true && decide (0 < d)) := by
          have := HD.out
          rw [Bool.true_and, decide_eq_decide]; omega
        exact ⟨by rw [e], BF⟩
      · have k0 : ((w2.setCell ⟨w.heap.size, 0, none⟩ (.bool false)).setCell ⟨w.heap.size + 1, 0, none⟩ (.bool false)).cell? ⟨w.heap.size + 1, 0, none⟩ = some (.bool false) := st_same (by rw [st_other (by simp)]; exact d2)
        obtain ⟨k1, k2⟩ := two_stored (w := w2.setCell ⟨w.heap.size, 0, none⟩ (.bool false)) (b := w.heap.size + 1) (x := .bool false) (y := .slice A n c) (by rw [st_other (by simp)]; exact d2) (by rw [st_other (by simp)]; exact d3)
        refine bodyPost_ret (v := .tuple #[.agg #[.bool false, .slice A n c], .int .i64 0]) (by simp [results, Tryz.results171, go_sem, hz2, k0, k1, k2]) rfl ?_
        unfold CheckQ
        rw [if_neg hbig]
        have BF := (((B2.out.setCell (p := ⟨w.heap.size, 0, none⟩) (Nat.le_refl _) (.bool false)).setCell (p := ⟨w.heap.size + 1, 0, none⟩) (Nat.le_succ _) (.bool false)).setCell (p := ⟨w.heap.size + 1, 1, none⟩) (Nat.le_succ _) (.slice A n c))
        exact ⟨rfl, BF⟩
end Go.Proofs.YtajkdllakleakaaGreatDoor
