/- Package maps, arrays: what is checked; members. -/
import Derived.Test.YtahidclhplmkiaaGreatDoorMIe
namespace Go.Proofs.YtahidclhplmkiaaGreatDoor
open Go.RowKit
set_option linter.unusedVariables false
set_option linter.unusedSimpArgs false

/-- The error of a place. -/
def chkE (k i more : Int) (m : Nat) : Int := if k = 3 then (if i < 1 ∨ (m : Int) < i - more then 6 else 0) else 1
theorem chkE_no {k i more : Int} {m : Nat} (h : ¬ k = 3) : chkE k i more m = 1 := by simp [chkE, h]
theorem chkE_lo {i more : Int} {m : Nat} (h : i < 1) : chkE 3 i more m = 6 := by simp [chkE, h]
theorem chkE_hi {i more : Int} {m : Nat} (h : (m : Int) < i - more) : chkE 3 i more m = 6 := by simp [chkE, h]
theorem chkE_ok {i more : Int} {m : Nat} (h : ¬ i < 1) (h' : ¬ (m : Int) < i - more) : chkE 3 i more m = 0 := by simp only [chkE, if_pos]; rw [if_neg (by omega)]
def i64B (i : Int) : Prop := -9223372036854775808 ≤ i ∧ i ≤ 9223372036854775807

set_option maxRecDepth 100000 in
theorem check_any (r : IRow) (i more : Int) (A : Option Addr) (m c : Nat) (w : World) (hok : ROk r) (hr : r.k = 3 → r.ms = .slice A m c) (hi : i64B i) (hmo : 0 ≤ more ∧ more ≤ 1) (hm : m ≤ maxLen) :
    Calls Tryz.prog 34 #[itV r, .int .i64 i, .int .i64 more] w fun e w' => e = .returned (.int .i64 (chkE r.k i more m)) ∧ Below w.heap.size w w' := by
  obtain ⟨k, ak, tx, tr, nd, ps, ms, fn⟩ := r
  dsimp only at hr ⊢
  have sps := fun w a m => run_store Tryz.prog w a ps m hok.ps
  have sms := fun w a m => run_store Tryz.prog w a ms m hok.ms
  have sfn := fun w a m => run_store Tryz.prog w a fn m hok.fn
  have ops := hok.ps
  have oms := hok.ms
  have ofn := hok.fn
  dsimp only at ops oms ofn sps sms sfn
  clear hok
  simp only [itV]
  unfold maxLen at hm
  obtain ⟨hi1, hi2⟩ := hi
  obtain ⟨ho1, ho2⟩ := hmo
  by_cases hk : k = 3
  · subst hk
    obtain rfl := hr rfl
    by_cases h1 : i < 1
    · have t1 : decide (i < 1) = true := by simpa using h1
      rw [chkE_lo h1]
      clear hr
      go_enter Tryz.func34, Tryz.ntmps34
      go_wp2
      go_ret
      exact ⟨rfl, box1 _ _ _⟩
    · have t1 : decide (i < 1) = false := by simpa using h1
      have hw : IntKind.i64.wrap (i - more) = i - more := IntWalk.i64_in _ (by omega)
      by_cases h2 : (m : Int) < i - more
      · have t2 : decide ((m : Int) < i - more) = true := by simpa using h2
        rw [chkE_hi h2]
        clear hr
        go_enter Tryz.func34, Tryz.ntmps34
        go_wp2
        go_ret
        exact ⟨rfl, box1 _ _ _⟩
      · have t2 : decide ((m : Int) < i - more) = false := by simpa using h2
        rw [chkE_ok h1 h2]
        clear hr
        go_enter Tryz.func34, Tryz.ntmps34
        go_wp2
        go_ret
        exact ⟨rfl, box1 _ _ _⟩
  · have t1 : (k != 3) = true := by simpa using hk
    rw [chkE_no hk]
    clear hr
    go_enter Tryz.func34, Tryz.ntmps34
    go_wp2
    go_ret
    exact ⟨rfl, box1 _ _ _⟩

end Go.Proofs.YtahidclhplmkiaaGreatDoor
