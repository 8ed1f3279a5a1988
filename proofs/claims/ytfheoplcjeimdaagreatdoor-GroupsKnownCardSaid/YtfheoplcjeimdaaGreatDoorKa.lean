/- Package atom at the atoms of the chapter's examples: when they are valid, and the same key. -/
import Derived.Test.YtfheoplcjeimdaaGreatDoorNmn
import Derived.Test.YtfheoplcjeimdaaGreatDoorDna
import Derived.Test.YtfheoplcjeimdaaGreatDoorStr
namespace Go.Proofs.YtfheoplcjeimdaaGreatDoor
open Go.RowKit
set_option linter.unusedVariables false
set_option linter.unusedSimpArgs false

def exB (k : Int) : Bool := k == 3 || k == 4
theorem isExact_any (k : Int) (w : World) : Calls Tryz.prog 43 #[.int .i64 k] w fun e w' => e = .returned (.bool (exB k)) ∧ w = w' := by
  go_enter Tryz.func43, Tryz.ntmps43
  go_wp2
  all_goals go_ret
  all_goals exact ⟨rB (by simp_all [exB]), rfl⟩
theorem isNumber_any (k : Int) (w : World) : Calls Tryz.prog 44 #[.int .i64 k] w fun e w' => e = .returned (.bool (exB k || k == 5)) ∧ w = w' := by
  go_enter Tryz.func44, Tryz.ntmps44
  go_wp2_with (go_at_call 43; refine (isExact_any _ _).mono ?_; rintro e w' ⟨rfl, rfl⟩)
  all_goals go_ret
  all_goals exact ⟨rB (by simp_all), rfl⟩

abbrev s1_ : ByteArray := { data := #[49] }
abbrev s0_ : ByteArray := { data := #[] }
theorem whole_one : wholeR [49] = ([49], true) := by decide +kernel
theorem dec_one : decR [49] = ([49], true) := by decide +kernel
theorem frac_one : (pFrac [49]).length ≤ 20 := by decide +kernel
theorem reader3 (w : World) : Calls Tryz.prog 42 #[.int .i64 3] w fun e w' => e = .returned (.func (.func 55) #[] #[]) ∧ w = w' := by
  go_enter Tryz.func42, Tryz.ntmps42
  go_wp2
  go_ret
  exact ⟨rfl, rfl⟩
theorem reader4 (w : World) : Calls Tryz.prog 42 #[.int .i64 4] w fun e w' => e = .returned (.func (.func 56) #[] #[]) ∧ w = w' := by
  go_enter Tryz.func42, Tryz.ntmps42
  go_wp2
  go_ret
  exact ⟨rfl, rfl⟩
theorem reader5 (w : World) : Calls Tryz.prog 42 #[.int .i64 5] w fun e w' => e = .returned (.func (.func 59) #[] #[]) ∧ w = w' := by
  go_enter Tryz.func42, Tryz.ntmps42
  go_wp2
  go_ret
  exact ⟨rfl, rfl⟩
theorem reader99 (w : World) : Calls Tryz.prog 42 #[.int .i64 99] w fun e w' => e = .returned .nilFunc ∧ w = w' := by
  go_enter Tryz.func42, Tryz.ntmps42
  go_wp2
  go_ret
  exact ⟨rfl, rfl⟩
theorem dblRead_nan (w : World) : Calls Tryz.prog 59 #[.string nanS] w fun e w' => e = .returned (.tuple #[.string nanS, .bool true]) ∧ Below w.heap.size w w' := by
  go_enter Tryz.func59, Tryz.ntmps59
  go_wp2_with fail
  refine (parseNaN _).mono ?_
  rintro e w1 ⟨rfl, hb⟩
  have HB := Lib.hid hb
  clear hb
  go_wp2_with (go_at_call 61; refine (textNaN _).mono ?_; rintro e w' ⟨rfl, rfl⟩)
  go_ret2
  exact ⟨rfl, HB.out⟩
theorem func_nil (g : Nat) (w : World) : (binOp .eql 53 (.func (.func g) #[] #[]) .nilFunc).run Tryz.prog w = .ok (.bool false) w := by kernel_rfl
theorem nil_nil (w : World) : (binOp .eql 53 .nilFunc .nilFunc).run Tryz.prog w = .ok (.bool true) w := by kernel_rfl
set_option maxRecDepth 100000 in
/-- A value is valid, if what reads its kind gives its text. -/
theorem valid_by (k : Int) (s : ByteArray) (g : Nat) (w : World) (hk : strB k = false) (hr : ∀ W, Calls Tryz.prog 42 #[.int .i64 k] W fun e w' => e = .returned (.func (.func g) #[] #[]) ∧ W = w')
    (hg : g = 55 ∨ g = 56 ∨ g = 59)
    (hR : ∀ W, Calls Tryz.prog g #[.string s] W fun e w' => e = .returned (.tuple #[.string s, .bool true]) ∧ Below W.heap.size W w') :
    Calls Tryz.prog 23 #[.agg #[.int .i64 k, .string s]] w fun e w' => e = .returned (.bool true) ∧ Below w.heap.size w w' := by
  have HR := Lib.hid hR
  have HRD := Lib.hid hr
  clear hR hr
  have hq := func_nil g
  rcases hg with rfl | rfl | rfl
  all_goals
    go_enter Tryz.func23, Tryz.ntmps23
    go_wp2_with fail
    refine (isString_any _ _).mono ?_
    rintro e w' ⟨rfl, rfl⟩
    go_wp2_with fail
    refine (HRD.out _).mono ?_
    rintro e w' ⟨rfl, rfl⟩
    go_wp2_with fail
    refine (HR.out _).mono ?_
    rintro e w1 ⟨rfl, hb⟩
    have c0 := (hb.cell (p := ⟨w.heap.size, 1, none⟩) (by simp)).trans (show _ = some (Value.string s) by simp)
    have HB := Lib.hid (below_to hb)
    clear hb
    go_wp2
    go_ret
    exact ⟨rB (by simp), HB.out⟩
theorem valid_int (w : World) : Calls Tryz.prog 23 #[.agg #[.int .i64 3, .string s1_]] w fun e w' => e = .returned (.bool true) ∧ Below w.heap.size w w' :=
  valid_by 3 s1_ _ w rfl reader3 (.inl rfl) (fun W => by have := wholeRead_any [49] W frac_one; rwa [whole_one] at this)
theorem valid_dec (w : World) : Calls Tryz.prog 23 #[.agg #[.int .i64 4, .string s1_]] w fun e w' => e = .returned (.bool true) ∧ Below w.heap.size w w' :=
  valid_by 4 s1_ _ w rfl reader4 (.inr (.inl rfl)) (fun W => by have := decRead_any [49] W frac_one; rwa [dec_one] at this)
theorem valid_nan (w : World) : Calls Tryz.prog 23 #[.agg #[.int .i64 5, .string nanS]] w fun e w' => e = .returned (.bool true) ∧ Below w.heap.size w w' :=
  valid_by 5 nanS _ w rfl reader5 (.inr (.inr rfl)) dblRead_nan
set_option maxRecDepth 100000 in
theorem valid_bad (w : World) : Calls Tryz.prog 23 #[.agg #[.int .i64 99, .string s0_]] w fun e w' => e = .returned (.bool false) ∧ Below w.heap.size w w' := by
  have hq := nil_nil
  go_enter Tryz.func23, Tryz.ntmps23
  go_wp2_with (first | (go_at_call 40; refine (isString_any _ _).mono ?_; rintro e w' ⟨rfl, rfl⟩) | (go_at_call 42; refine (reader99 _).mono ?_; rintro e w' ⟨rfl, rfl⟩))
  go_ret
  exact ⟨rfl, (Below.refl _ _).alloc (Nat.le_refl _) _⟩
end Go.Proofs.YtfheoplcjeimdaaGreatDoor
