/- Package atom at the whole numbers 1, 2, 3: they are valid. -/
import Derived.Test.YtajkdllakleakaaGreatDoorMNmn
import Derived.Test.YtajkdllakleakaaGreatDoorTxt
namespace Go.Proofs.YtajkdllakleakaaGreatDoor
open Go.RowKit
set_option linter.unusedVariables false
set_option linter.unusedSimpArgs false

theorem vreader3 (w : World) : Calls Tryz.prog 58 #[.int .i64 3] w fun e w' => e = .returned (.func (.func 74) #[] #[]) ∧ w = w' := by
  go_enter Tryz.func58, Tryz.ntmps58
  go_wp2
  go_ret
  exact ⟨rfl, rfl⟩
theorem vreader4 (w : World) : Calls Tryz.prog 58 #[.int .i64 4] w fun e w' => e = .returned (.func (.func 75) #[] #[]) ∧ w = w' := by
  go_enter Tryz.func58, Tryz.ntmps58
  go_wp2
  go_ret
  exact ⟨rfl, rfl⟩
theorem vfunc_nil (g : Nat) (w : World) : (binOp .eql 124 (.func (.func g) #[] #[]) .nilFunc).run Tryz.prog w = .ok (.bool false) w := by kernel_rfl
/-- A value is valid. -/
def ValidK (k : Int) (s : ByteArray) : Prop := ∀ w, Calls Tryz.prog 44 #[.agg #[.int .i64 k, .string s]] w fun e w' => e = .returned (.bool true) ∧ Below w.heap.size w w'
set_option maxRecDepth 100000 in
theorem vvalid_by (k : Int) (s : ByteArray) (g : Nat) (hk : strB k = false) (hr : ∀ W, Calls Tryz.prog 58 #[.int .i64 k] W fun e w' => e = .returned (.func (.func g) #[] #[]) ∧ W = w')
    (hg : g = 74 ∨ g = 75)
    (hR : ∀ W, Calls Tryz.prog g #[.string s] W fun e w' => e = .returned (.tuple #[.string s, .bool true]) ∧ Below W.heap.size W w') : ValidK k s := by
  intro w
  have HR := Lib.hid hR
  have HRD := Lib.hid hr
  clear hR hr
  have hq := vfunc_nil g
  rcases hg with rfl | rfl
  all_goals
    go_enter Tryz.func44, Tryz.ntmps44
    go_wp2_with fail
    refine (isString_any _ _).mono ?_
    rintro e w' ⟨rfl, rfl⟩
    go_wp2_with fail
    refine (HRD.out _).mono ?_
    rintro e w' ⟨rfl, rfl⟩
    go_wp2_with fail
    refine (HR.out _).mono ?_
    rintro e w1 ⟨rfl, hb⟩
    have c0 := (hb.cell (p := ⟨w.heap.size, 1, none⟩) (by simp)).trans (show _ = some (Value.string s) by simp)
    have HB := Lib.hid (below_to hb)
    clear hb
    go_wp2
    go_ret
    exact ⟨rB (by simp), HB.out⟩
def d1 : ByteArray := { data := #[49] }
def d2 : ByteArray := { data := #[50] }
def d3 : ByteArray := { data := #[51] }
theorem vint {s : ByteArray} (h : s = d1 ∨ s = d2 ∨ s = d3) : ValidK 3 s := by
  rcases h with rfl | rfl | rfl
  · exact vvalid_by 3 d1 _ rfl vreader3 (.inl rfl) (fun W => by have := wholeRead_any [49] W (by decide +kernel); rwa [show wholeR [49] = ([49], true) by decide +kernel] at this)
  · exact vvalid_by 3 d2 _ rfl vreader3 (.inl rfl) (fun W => by have := wholeRead_any [50] W (by decide +kernel); rwa [show wholeR [50] = ([50], true) by decide +kernel] at this)
  · exact vvalid_by 3 d3 _ rfl vreader3 (.inl rfl) (fun W => by have := wholeRead_any [51] W (by decide +kernel); rwa [show wholeR [51] = ([51], true) by decide +kernel] at this)
theorem vdec {s : ByteArray} (h : s = d1 ∨ s = d2 ∨ s = d3) : ValidK 4 s := by
  rcases h with rfl | rfl | rfl
  · exact vvalid_by 4 d1 _ rfl vreader4 (.inr rfl) (fun W => by have := decRead_any [49] W (by decide +kernel); rwa [show decR [49] = ([49], true) by decide +kernel] at this)
  · exact vvalid_by 4 d2 _ rfl vreader4 (.inr rfl) (fun W => by have := decRead_any [50] W (by decide +kernel); rwa [show decR [50] = ([50], true) by decide +kernel] at this)
  · exact vvalid_by 4 d3 _ rfl vreader4 (.inr rfl) (fun W => by have := decRead_any [51] W (by decide +kernel); rwa [show decR [51] = ([51], true) by decide +kernel] at this)
/-- The keys of the examples. -/
def KeyS (k : Int) (s : ByteArray) : Prop := (k = 3 ∨ k = 4) ∧ (s = d1 ∨ s = d2 ∨ s = d3)
theorem KeyS.valid {k : Int} {s : ByteArray} (h : KeyS k s) : ValidK k s := by
  obtain ⟨rfl | rfl, h⟩ := h
  · exact vint h
  · exact vdec h
end Go.Proofs.YtajkdllakleakaaGreatDoor
