/- Package num: powers of ten; the form of a number. -/
import Derived.Test.YtfheoplcjeimdaaGreatDoorNmc
import Derived.Test.YtfheoplcjeimdaaGreatDoorNmd
import Derived.Test.YtfheoplcjeimdaaGreatDoorNme
import Derived.Test.YtfheoplcjeimdaaGreatDoorNwt
import Derived.Test.YtfheoplcjeimdaaGreatDoorSh
namespace Go.Proofs.YtfheoplcjeimdaaGreatDoor
open Go.RowKit
set_option linter.unusedVariables false
set_option linter.unusedSimpArgs false

theorem ten_text (n : Nat) : (({ data := #[49] } : ByteArray) ++ { data := (Lib.repeatL [48] n).toArray }).data.toList = tenS n := by
  rw [repeatL_one, ByteArray.data_append]
  simp [tenS]
theorem pow10_any (n : Nat) (w : World) (hn : n ≤ 1000) :
    Calls Tryz.prog 163 #[.int .i64 (n : Int)] w (GivesB (10 ^ n) w) := by
  have hlen : (Lib.repeatL [48] n).length ≤ 1000 := by rw [repeatL_one, List.length_replicate]; exact hn
  go_enter Tryz.func163, Tryz.ntmps163
  go_wp2_with fail
  refine (Tryz.strings_Repeat ⟨#[48]⟩ n w (by omega) (by show 1 * n ≤ _; omega)).mono ?_
  rintro e w1 ⟨rfl, hb⟩
  have HB := Lib.hid hb
  clear hb
  go_wp2_with fail
  refine (fromDigits_any _ w1 (fun c hc => tenS_dig n c (by rw [← ten_text]; exact hc)) ?_).mono ?_
  · have h1 := congrArg List.length (ten_text n)
    rw [Array.length_toList] at h1
    have h2 : (tenS n).length = n + 1 := by simp [tenS]
    rw [h2] at h1
    have : ∀ b : ByteArray, b.size = b.data.size := fun _ => rfl
    rw [this]; omega
  · rintro e w2 ⟨u, rfl, hr, hb, ho⟩
    rw [ten_text, dgv_ten] at hr
    have HR := Lib.hid hr
    have HB2 := Lib.hid (HB.out.trans (hb.mono HB.out.size))
    have HO2 := Lib.hid (fun k hk => Nat.le_trans HB.out.size (ho k hk))
    clear hr hb ho
    go_wp2
    go_ret
    exact ⟨u, rfl, HR.out, HB2.out, HO2.out⟩

/-- parse's test of a rune. -/
theorem parse1_any (x : Nat) (w : World) (hx : x ≤ 1114111) :
    Calls Tryz.prog 160 #[.int .i32 (x : Int)] w fun e w' => e = .returned (.bool (noDig x)) ∧ Below w.heap.size w w' := by
  go_enter Tryz.func160, Tryz.ntmps160
  go_wp2
  all_goals go_ret
  all_goals exact ⟨rB (by simp only [noDig]; grind), Below.refl _ _⟩
end Go.Proofs.YtfheoplcjeimdaaGreatDoor
