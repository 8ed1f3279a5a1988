/- Package maps, arrays: what is checked; members. -/
import Derived.Test.YtgmnabflendikaaGreatDoorMIe
namespace Go.Proofs.YtgmnabflendikaaGreatDoor
open Go.RowKit
set_option linter.unusedVariables false
set_option linter.unusedSimpArgs false

/-- The error of a place. -/
def chkE (k i more : Int) (m : Nat) : Int := if k = 3 then (if i < 1 ∨ (m : Int) < i - more then 6 else 0) else 1
theorem chkE_no {k i more : Int} {m : Nat} (h : ¬ k = 3) : chkE k i more m = 1 := by simp [chkE, h]
theorem chkE_lo {i more : Int} {m : Nat} (h : i < 1) : chkE 3 i more m = 6 := by simp [chkE, h]
theorem chkE_hi {i more : Int} {m : Nat} (h : (m : Int) < i - more) : chkE 3 i more m = 6 := by simp [chkE, h]
theorem chkE_ok {i more : Int} {m : Nat} (h : ¬ i < 1) (h' : ¬ (m : Int) < i - more) : chkE 3 i more m = 0 := by simp only [chkE, if_pos]; rw [if_neg (by omega)]
def i64B (i : Int) : Prop := -9223372036854775808 ≤ i ∧ i ≤ 9223372036854775807

set_option maxRecDepth 100000 in
theorem check_any (r : IRow) (i more : Int) (A : Option Addr) (m c : Nat) (w : World) (hok : ROk r) (hr : r.k = 3 → r.ms = .slice A m c) (hi : i64B i) (hmo : 0 ≤ more ∧ more ≤ 1) (hm : m ≤ maxLen) :
    Calls Tryz.prog 23 #[itV r, .int .i64 i, .int .i64 more] w fun e w' => e = .returned (.int .i64 (chkE r.k i more m)) ∧ Below w.heap.size w w' := by
  obtain ⟨k, ak, tx, tr, nd, ps, ms, fn⟩ := r
  dsimp only at hr ⊢
  have sps := fun w a m => run_store Tryz.prog w a ps m hok.ps
  have sms := fun w a m => run_store Tryz.prog w a ms m hok.ms
  have sfn := fun w a m => run_store Tryz.prog w a fn m hok.fn
  have ops := hok.ps
  have oms := hok.ms
  have ofn := hok.fn
  dsimp only at ops oms ofn sps sms sfn
  clear hok
  simp only [itV]
  unfold maxLen at hm
  obtain ⟨hi1, hi2⟩ := hi
  obtain ⟨ho1, ho2⟩ := hmo
  by_cases hk : k = 3
  · subst hk
    obtain rfl := hr rfl
    by_cases h1 : i < 1
    · have t1 : decide (i < 1) = true := by simpa using h1
      rw [chkE_lo h1]
      clear hr
      go_enter Tryz.func23, Tryz.ntmps23
      go_wp2
      go_ret
      exact ⟨rfl, box1 _ _ _⟩
    · have t1 : decide (i < 1) = false := by simpa using h1
      have hw : IntKind.i64.wrap (i - more) = i - more := IntWalk.i64_in _ (by omega)
      by_cases h2 : (m : Int) < i - more
      · have t2 : decide ((m : Int) < i - more) = true := by simpa using h2
        rw [chkE_hi h2]
        clear hr
        go_enter Tryz.func23, Tryz.ntmps23
        go_wp2
        go_ret
        exact ⟨rfl, box1 _ _ _⟩
      · have t2 : decide ((m : Int) < i - more) = false := by simpa using h2
        rw [chkE_ok h1 h2]
        clear hr
        go_enter Tryz.func23, Tryz.ntmps23
        go_wp2
        go_ret
        exact ⟨rfl, box1 _ _ _⟩
  · have t1 : (k != 3) = true := by simpa using hk
    rw [chkE_no hk]
    clear hr
    go_enter Tryz.func23, Tryz.ntmps23
    go_wp2
    go_ret
    exact ⟨rfl, box1 _ _ _⟩

end Go.Proofs.YtgmnabflendikaaGreatDoor
/- At of both packages. -/
namespace Go.Proofs.YtgmnabflendikaaGreatDoor
open Go.RowKit
set_option linter.unusedVariables false
set_option linter.unusedSimpArgs false

/-- What At hands back. -/
def atV (k i : Int) (m : Nat) (ms : List Value) : Value := if chkE k i 0 m = 0 then ms.getD (i.toNat - 1) (.slice none 0 0) else .slice none 0 0
def AtPost (k i : Int) (m : Nat) (ms : List Value) (w : World) (e : Ending) (w' : World) : Prop := e = .returned (.tuple #[atV k i m ms, .int .i64 (chkE k i 0 m)]) ∧ Below w.heap.size w w'
set_option maxRecDepth 100000 in
theorem at_any (r : IRow) (i : Int) (ms : List Value) (w : World) (hok : ROk r) (hr : r.k = 3 → RdM w ms r.ms) (hi : i64B i) :
    Calls Tryz.prog 7 #[itV r, .int .i64 i] w (AtPost r.k i ms.length ms w) := by
  by_cases hk : r.k = 3
  · have h := hr hk
    obtain ⟨A, c, hrm, hm⟩ := h.form
    have HC := Lib.hid (fun W => check_any r i 0 A ms.length c W hok (fun _ => hrm) hi (by omega) hm)
    obtain ⟨k, ak, tx, tr, nd, ps, ms', fn⟩ := r
    have sps := fun w a m => run_store Tryz.prog w a ps m hok.ps
    have sms := fun w a m => run_store Tryz.prog w a ms' m hok.ms
    have sfn := fun w a m => run_store Tryz.prog w a fn m hok.fn
    have ops := hok.ps
    have oms := hok.ms
    have ofn := hok.fn
    dsimp only at ops oms ofn sps sms sfn
    clear hok
    dsimp only at hk hrm h ⊢
    subst hk hrm
    simp only [itV] at HC ⊢
    unfold AtPost atV
    unfold maxLen at hm
    obtain ⟨hi1, hi2⟩ := hi
    have H := Lib.hid h
    clear h hr
    by_cases h1 : chkE 3 i 0 ms.length = 0
    · have ⟨h2, h3⟩ : ¬ i < 1 ∧ ¬ (ms.length : Int) < i := by
        constructor
        · intro e; rw [chkE_lo e] at h1; cases h1
        · intro e; rw [chkE_hi (by omega)] at h1; cases h1
      obtain ⟨b, off, v, rfl, hb, hg, hd, hc⟩ := H.out.row (Below.refl _ _) (k := i.toNat - 1) (by omega)
      have he : ms.getD (i.toNat - 1) (.slice none 0 0) = v := by rw [List.getD_eq_getElem?_getD, hg]; rfl
      have hiv : i - 1 = ((i.toNat - 1 : Nat) : Int) := by omega
      have hlt : i.toNat - 1 < ms.length := by omega
      rw [if_pos h1, he, h1]
      rw [h1] at HC
      have HI := Lib.hid hiv
      have HK := Lib.hid h1
      clear he hg hd h1 hiv
      generalize i.toNat - 1 = j at *
      obtain rfl : i = (j : Int) + 1 := by have := HI.out; omega
      clear HI HK
      go_enter Tryz.func7, Tryz.ntmps7
      go_wp2_with fail
      refine (HC.out _).mono ?_
      rintro e w1 ⟨rfl, hb1⟩
      have hc1 : w1.cell? ⟨b, off + j, none⟩ = some v := ((box1 w _ _).trans (hb1.mono (by simp))).cell (p := ⟨b, off + j, none⟩) hb |>.trans hc
      have hx := (hb1.cell (p := ⟨w.heap.size, 6, none⟩) (by simp)).trans (show _ = some (Value.slice (some ⟨b, off, none⟩) ms.length c) by simp)
      have HB := Lib.hid ((box1 w _ _).trans (hb1.mono (by simp)))
      clear hb1
      go_wp2
      go_ret2
      exact ⟨rfl, HB.out⟩
    · have h2 : (chkE 3 i 0 ms.length != 0) = true := by simpa using h1
      rw [if_neg h1]
      have H1 := Lib.hid h1
      clear h1
      go_enter Tryz.func7, Tryz.ntmps7
      go_wp2_with fail
      refine (HC.out _).mono ?_
      rintro e w1 ⟨rfl, hb1⟩
      have HB := Lib.hid ((box1 w _ _).trans (hb1.mono (by simp)))
      clear hb1
      go_wp2
      go_ret2
      exact ⟨rfl, HB.out⟩
  · have HC := Lib.hid (fun W => check_any r i 0 none 0 0 W hok (fun e => absurd e hk) hi (by omega) (by decide))
    obtain ⟨k, ak, tx, tr, nd, ps, ms', fn⟩ := r
    have sps := fun w a m => run_store Tryz.prog w a ps m hok.ps
    have sms := fun w a m => run_store Tryz.prog w a ms' m hok.ms
    have sfn := fun w a m => run_store Tryz.prog w a fn m hok.fn
    have ops := hok.ps
    have oms := hok.ms
    have ofn := hok.fn
    dsimp only at ops oms ofn sps sms sfn
    clear hok
    dsimp only at hk HC ⊢
    simp only [itV] at HC ⊢
    unfold AtPost atV
    rw [chkE_no hk, if_neg (by decide)]
    rw [chkE_no hk] at HC
    clear hr hk hi
    go_enter Tryz.func7, Tryz.ntmps7
    go_wp2_with fail
    refine (HC.out _).mono ?_
    rintro e w1 ⟨rfl, hb1⟩
    have HB := Lib.hid ((box1 w _ _).trans (hb1.mono (by simp)))
    clear hb1
    go_wp2
    go_ret2
    exact ⟨rfl, HB.out⟩
set_option maxRecDepth 100000 in
theorem refAt_any (r : IRow) (i : Int) (ms : List Value) (w : World) (hok : ROk r) (hr : r.k = 3 → RdM w ms r.ms) (hi : i64B i) :
    Calls Tryz.prog 8 #[itV r, .int .i64 i] w (AtPost r.k i ms.length ms w) := by
  by_cases hk : r.k = 3
  · have h := hr hk
    obtain ⟨A, c, hrm, hm⟩ := h.form
    obtain ⟨k, ak, tx, tr, nd, ps, ms', fn⟩ := r
    have sps := fun w a m => run_store Tryz.prog w a ps m hok.ps
    have sms := fun w a m => run_store Tryz.prog w a ms' m hok.ms
    have sfn := fun w a m => run_store Tryz.prog w a fn m hok.fn
    have ops := hok.ps
    have oms := hok.ms
    have ofn := hok.fn
    dsimp only at ops oms ofn sps sms sfn
    clear hok
    dsimp only at hk hrm h ⊢
    subst hk hrm
    simp only [itV]
    unfold AtPost atV
    unfold maxLen at hm
    obtain ⟨hi1, hi2⟩ := hi
    have H := Lib.hid h
    clear h hr
    by_cases h2 : i < 1
    · have t1 : decide (i < 1) = true := by simpa using h2
      rw [chkE_lo h2, if_neg (by decide)]
      go_enter Tryz.func8, Tryz.ntmps8
      go_wp2
      go_ret2
      exact ⟨rfl, box1 _ _ _⟩
    · have t1 : decide (i < 1) = false := by simpa using h2
      by_cases h3 : (ms.length : Int) < i
      · have t2 : decide ((ms.length : Int) < i) = true := by simpa using h3
        rw [chkE_hi (by omega), if_neg (by decide)]
        go_enter Tryz.func8, Tryz.ntmps8
        go_wp2
        go_ret2
        exact ⟨rfl, box1 _ _ _⟩
      · obtain ⟨b, off, v, rfl, hb, hg, hd, hc⟩ := H.out.row (Below.refl _ _) (k := i.toNat - 1) (by omega)
        have he : ms.getD (i.toNat - 1) (.slice none 0 0) = v := by rw [List.getD_eq_getElem?_getD, hg]; rfl
        have hiv : i - 1 = ((i.toNat - 1 : Nat) : Int) := by omega
        have hlt : i.toNat - 1 < ms.length := by omega
        have h1 : chkE 3 i 0 ms.length = 0 := chkE_ok h2 (by omega)
        rw [if_pos h1, he, h1]
        have HI := Lib.hid hiv
        clear he hg hd h1 hiv
        generalize i.toNat - 1 = j at *
        obtain rfl : i = (j : Int) + 1 := by have := HI.out; omega
        have t2 : decide ((ms.length : Int) < (j : Int) + 1) = false := by simpa using h3
        clear HI
        go_enter Tryz.func8, Tryz.ntmps8
        go_wp2
        go_ret2
        exact ⟨rfl, box1 _ _ _⟩
  · obtain ⟨k, ak, tx, tr, nd, ps, ms', fn⟩ := r
    have sps := fun w a m => run_store Tryz.prog w a ps m hok.ps
    have sms := fun w a m => run_store Tryz.prog w a ms' m hok.ms
    have sfn := fun w a m => run_store Tryz.prog w a fn m hok.fn
    have ops := hok.ps
    have oms := hok.ms
    have ofn := hok.fn
    dsimp only at ops oms ofn sps sms sfn
    clear hok
    dsimp only at hk ⊢
    simp only [itV]
    unfold AtPost atV
    rw [chkE_no hk, if_neg (by decide)]
    have t1 : (k != 3) = true := by simpa using hk
    clear hr hk hi
    go_enter Tryz.func8, Tryz.ntmps8
    go_wp2
    go_ret2
    exact ⟨rfl, box1 _ _ _⟩
end Go.Proofs.YtgmnabflendikaaGreatDoor
