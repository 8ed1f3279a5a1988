/- Package dbl at NaN. -/
import Derived.Test.YtfheoplcjeimdaaGreatDoorNz
import Derived.Test.YtfheoplcjeimdaaGreatDoorSh
namespace Go.Proofs.YtfheoplcjeimdaaGreatDoor
open Go.RowKit
set_option linter.unusedVariables false
set_option linter.unusedSimpArgs false

def nanS : ByteArray := ⟨#[78, 97, 78]⟩
def spN (c : Nat) : Bool := !(c == 9 || c == 10 || c == 13 || c == 32)
theorem isSpace1_any (x : Nat) (w : World) (hx : x ≤ 1114111) :
    Calls Tryz.prog 168 #[.int .i32 (x : Int)] w fun e w' => e = .returned (.bool (spN x)) ∧ Below w.heap.size w w' := by
  go_enter Tryz.func168, Tryz.ntmps168
  go_wp2
  all_goals go_ret
  all_goals refine ⟨rB ?_, Below.refl _ _⟩
  all_goals (rw [Bool.eq_iff_iff]; simp [spN]; try omega)
set_option maxRecDepth 100000 in
theorem isSpaceN (w : World) : Calls Tryz.prog 93 #[.string ⟨#[78]⟩] w fun e w' => e = .returned (.bool false) ∧ Below w.heap.size w w' := by
  have hI : Hid (∀ W, Calls Tryz.prog 159 #[.string ⟨#[78]⟩, .func (.func 168) #[] #[]] W fun e w' => e = .returned (.int .i64 0) ∧ Below W.heap.size W w') := Lib.hid (fun W => by
    have := Tryz.strings_IndexFunc_grows 168 #[] (fun _ _ => rfl) spN ⟨#[78]⟩ W (fun W' x hx _ => isSpace1_any x W' hx)
    rwa [show Lib.idxFunc spN true ⟨#[78]⟩ = 0 by decide +kernel] at this)
  go_enter Tryz.func93, Tryz.ntmps93
  go_wp2_with fail
  refine (hI.out _).mono ?_
  rintro e w1 ⟨rfl, hb⟩
  have HB := Lib.hid hb
  clear hb
  go_wp2
  go_ret
  exact ⟨rfl, HB.out⟩
set_option maxRecDepth 100000 in
theorem nan_any (w : World) : Calls Tryz.prog 94 #[] w fun e w' => e = .returned (.float .f64 9221120237041090561) ∧ w = w' := by
  have hfb : ∀ w : World, (callFunc 133 #[.int .u64 9221120237041090561]).run Tryz.prog w = .ok (.value (.float .f64 9221120237041090561)) w := fun w => by kernel_rfl
  go_enter Tryz.func94, Tryz.ntmps94
  go_wp2
  go_ret
  exact ⟨rfl, rfl⟩
theorem nan_ne : (FloatKind.f64.format.order 9221120237041090561 9221120237041090561 != some Ordering.eq) = true := by kernel_rfl
set_option maxRecDepth 100000 in
theorem textNaN (w : World) : Calls Tryz.prog 61 #[.float .f64 9221120237041090561] w fun e w' => e = .returned (.string nanS) ∧ w = w' := by
  have hn := nan_ne
  go_enter Tryz.func61, Tryz.ntmps61
  go_wp2
  go_ret
  exact ⟨rfl, rfl⟩
set_option maxRecDepth 100000 in
theorem parseNaN (w : World) : Calls Tryz.prog 60 #[.string nanS] w fun e w' => e = .returned (.tuple #[.float .f64 9221120237041090561, .bool true]) ∧ Below w.heap.size w w' := by
  unfold nanS
  go_enter Tryz.func60, Tryz.ntmps60
  go_wp2
  go_loopw [0] (fun x wr => x = .string ⟨#[78, 97, 78]⟩ ∧ Below w.heap.size w wr) (fun _ _ => 0)
  case atStart => exact ⟨rfl, Below.refl _ _⟩
  case round =>
    obtain ⟨rfl, hb⟩ := hrel
    have hx0 : (({ data := #[78, 97, 78] } : ByteArray).extract 0 1) = { data := #[78] } := by decide +kernel
    have hx1 : (({ data := #[78, 97, 78] } : ByteArray).extract 2 3) = { data := #[78] } := by decide +kernel
    go_wp2_with fail
    refine (isSpaceN _).mono ?_
    rintro e w1 ⟨rfl, hb1⟩
    have B1 := Lib.hid (hb.trans (hb1.mono hb.size))
    clear hb hb1
    go_wp2
    obtain ⟨wo, hwo⟩ : ∃ wo : World, wo = wr := ⟨_, rfl⟩
    clear hwo
    go_loopw [0] (fun x wq => x = .string ⟨#[78, 97, 78]⟩ ∧ Below w.heap.size w wq) (fun _ _ => 0)
    case atStart => exact ⟨rfl, B1.out⟩
    case round =>
      obtain ⟨rfl, hb⟩ := hrel
      go_wp2_with fail
      refine (isSpaceN _).mono ?_
      rintro e w2 ⟨rfl, hb1⟩
      have B2 := Lib.hid (hb.trans (hb1.mono hb.size))
      clear hb hb1
      go_wp2_with (go_at_call 94; refine (nan_any _).mono ?_; rintro e w' ⟨rfl, rfl⟩)
      go_ret2
      exact ⟨rfl, B2.out⟩
end Go.Proofs.YtfheoplcjeimdaaGreatDoor
