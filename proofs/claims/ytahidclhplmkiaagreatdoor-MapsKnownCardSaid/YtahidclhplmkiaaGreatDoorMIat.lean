/- maps.At. -/
import Derived.Test.YtahidclhplmkiaaGreatDoorMIm
namespace Go.Proofs.YtahidclhplmkiaaGreatDoor
open Go.RowKit
set_option linter.unusedVariables false
set_option linter.unusedSimpArgs false

/-- What At hands back. -/
def atV (k i : Int) (m : Nat) (ms : List Value) : Value := if chkE k i 0 m = 0 then ms.getD (i.toNat - 1) (.slice none 0 0) else .slice none 0 0
def AtPost (k i : Int) (m : Nat) (ms : List Value) (w : World) (e : Ending) (w' : World) : Prop := e = .returned (.tuple #[atV k i m ms, .int .i64 (chkE k i 0 m)]) ∧ Below w.heap.size w w'
set_option maxRecDepth 100000 in
theorem at_any (r : IRow) (i : Int) (ms : List Value) (w : World) (hok : ROk r) (hr : r.k = 3 → RdM w ms r.ms) (hi : i64B i) :
    Calls Tryz.prog 18 #[itV r, .int .i64 i] w (AtPost r.k i ms.length ms w) := by
  by_cases hk : r.k = 3
  · have h := hr hk
    obtain ⟨A, c, hrm, hm⟩ := h.form
    have HC := Lib.hid (fun W => check_any r i 0 A ms.length c W hok (fun _ => hrm) hi (by omega) hm)
    obtain ⟨k, ak, tx, tr, nd, ps, ms', fn⟩ := r
    have sps := fun w a m => run_store Tryz.prog w a ps m hok.ps
    have sms := fun w a m => run_store Tryz.prog w a ms' m hok.ms
    have sfn := fun w a m => run_store Tryz.prog w a fn m hok.fn
    have ops := hok.ps
    have oms := hok.ms
    have ofn := hok.fn
    dsimp only at ops oms ofn sps sms sfn
    clear hok
    dsimp only at hk hrm h ⊢
    subst hk hrm
    simp only [itV] at HC ⊢
    unfold AtPost atV
    unfold maxLen at hm
    obtain ⟨hi1, hi2⟩ := hi
    have H := Lib.hid h
    clear h hr
    by_cases h1 : chkE 3 i 0 ms.length = 0
    · have ⟨h2, h3⟩ : ¬ i < 1 ∧ ¬ (ms.length : Int) < i := by
        constructor
        · intro e; rw [chkE_lo e] at h1; cases h1
        · intro e; rw [chkE_hi (by omega)] at h1; cases h1
      obtain ⟨b, off, v, rfl, hb, hg, hd, hc⟩ := H.out.row (Below.refl _ _) (k := i.toNat - 1) (by omega)
      have he : ms.getD (i.toNat - 1) (.slice none 0 0) = v := by rw [List.getD_eq_getElem?_getD, hg]; rfl
      have hiv : i - 1 = ((i.toNat - 1 : Nat) : Int) := by omega
      have hlt : i.toNat - 1 < ms.length := by omega
      rw [if_pos h1, he, h1]
      rw [h1] at HC
      have HI := Lib.hid hiv
      have HK := Lib.hid h1
      clear he hg hd h1 hiv
      generalize i.toNat - 1 = j at *
      obtain rfl : i = (j : Int) + 1 := by have := HI.out; omega
      clear HI HK
      go_enter Tryz.func18, Tryz.ntmps18
      go_wp2_with fail
      refine (HC.out _).mono ?_
      rintro e w1 ⟨rfl, hb1⟩
      have hc1 : w1.cell? ⟨b, off + j, none⟩ = some v := ((box1 w _ _).trans (hb1.mono (by simp))).cell (p := ⟨b, off + j, none⟩) hb |>.trans hc
      have hx := (hb1.cell (p := ⟨w.heap.size, 6, none⟩) (by simp)).trans (show _ = some (Value.slice (some ⟨b, off, none⟩) ms.length c) by simp)
      have HB := Lib.hid ((box1 w _ _).trans (hb1.mono (by simp)))
      clear hb1
      go_wp2
      go_ret2
      exact ⟨rfl, HB.out⟩
    · have h2 : (chkE 3 i 0 ms.length != 0) = true := by simpa using h1
      rw [if_neg h1]
      have H1 := Lib.hid h1
      clear h1
      go_enter Tryz.func18, Tryz.ntmps18
      go_wp2_with fail
      refine (HC.out _).mono ?_
      rintro e w1 ⟨rfl, hb1⟩
      have HB := Lib.hid ((box1 w _ _).trans (hb1.mono (by simp)))
      clear hb1
      go_wp2
      go_ret2
      exact ⟨rfl, HB.out⟩
  · have HC := Lib.hid (fun W => check_any r i 0 none 0 0 W hok (fun e => absurd e hk) hi (by omega) (by decide))
    obtain ⟨k, ak, tx, tr, nd, ps, ms', fn⟩ := r
    have sps := fun w a m => run_store Tryz.prog w a ps m hok.ps
    have sms := fun w a m => run_store Tryz.prog w a ms' m hok.ms
    have sfn := fun w a m => run_store Tryz.prog w a fn m hok.fn
    have ops := hok.ps
    have oms := hok.ms
    have ofn := hok.fn
    dsimp only at ops oms ofn sps sms sfn
    clear hok
    dsimp only at hk HC ⊢
    simp only [itV] at HC ⊢
    unfold AtPost atV
    rw [chkE_no hk, if_neg (by decide)]
    rw [chkE_no hk] at HC
    clear hr hk hi
    go_enter Tryz.func18, Tryz.ntmps18
    go_wp2_with fail
    refine (HC.out _).mono ?_
    rintro e w1 ⟨rfl, hb1⟩
    have HB := Lib.hid ((box1 w _ _).trans (hb1.mono (by simp)))
    clear hb1
    go_wp2
    go_ret2
    exact ⟨rfl, HB.out⟩
end Go.Proofs.YtahidclhplmkiaaGreatDoor
