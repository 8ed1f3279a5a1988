/- chisellaw30.GroupsMarked: the walk. -/
import Derived.Test.YtfheoplcjeimdaaGreatDoorWks
namespace Go.Proofs.YtfheoplcjeimdaaGreatDoor
open Go.RowKit
set_option linter.unusedVariables false
set_option linter.unusedSimpArgs false

theorem same_grp (beg : Nat → Bool) (n : Nat) (gs : List (List Int)) (he : gs = grp beg n) (u v : Value) (w : World) (ha : RdII w u gs) (hb : RdII w v (grp beg n)) (hn : n ≤ 1000000) :
    Calls Tryz.prog 16 #[u, v] w fun e w' => e = .returned (.bool true) ∧ Below w.heap.size w w' := by
  subst he
  refine (same_any _ _ u v w ha hb (Nat.le_trans (grp_len _ _) hn) (fun j => Nat.le_trans (grp_in _ _ _) hn)).mono ?_
  rintro e w' ⟨rfl, h⟩
  exact ⟨by simp, h⟩

set_option maxRecDepth 100000 in
theorem marked_any (l : List Bool) (A : Option Addr) (n cap : Nat) (w : World) (hl : RdBools w A n l) (hn : n ≤ 9223372036854775807) :
    Calls Tryz.prog 5 #[.slice A n cap] w fun e w' => e = .returned (.bool true) ∧ Below w.heap.size w w' := by
  have HL := Lib.hid hl
  clear hl
  go_enter Tryz.func5, Tryz.ntmps5
  by_cases hc : 2000 < n
  · go_wp2_with fail
    refine (works_any _).mono ?_
    rintro e w1 ⟨rfl, hb⟩
    have HB := Lib.hid hb
    clear hb
    go_wp2
    go_ret
    exact ⟨ret_bool (by simp), HB.out⟩
  · go_wp2_with fail
    refine (starting_any l A n cap w HL.out (by omega)).mono ?_
    rintro e w1 ⟨v1, rfl, r1, b1⟩
    have R1 := Lib.hid r1
    have B1 := Lib.hid b1
    clear r1 b1
    go_wp2_with fail
    refine (refStarting_any l A n cap w1 (HL.out.below B1.out) (by omega)).mono ?_
    rintro e w2 ⟨v2, vs2, rfl, r2, b2⟩
    have R1 := Lib.hid (R1.out.below b2)
    have R2 := Lib.hid r2.reads
    have B2 := Lib.hid (B1.out.trans (b2.mono B1.out.size))
    clear r2 b2 B1
    go_wp2_with fail
    refine (same_grp _ n _ rfl _ _ w2 R1.out R2.out (by omega)).mono ?_
    rintro e w3 ⟨rfl, b3⟩
    have B3 := Lib.hid (B2.out.trans (b3.mono B2.out.size))
    clear b3 B2 R1 R2
    go_wp2_with fail
    refine (ending_any l A n cap w3 (HL.out.below B3.out) (by omega)).mono ?_
    rintro e w4 ⟨v4, rfl, r4, b4⟩
    have R4 := Lib.hid r4
    have B4 := Lib.hid (B3.out.trans (b4.mono B3.out.size))
    clear r4 b4 B3
    go_wp2_with fail
    refine (refEnding_any l A n cap w4 (HL.out.below B4.out) (by omega)).mono ?_
    rintro e w5 ⟨v5, vs5, rfl, r5, b5⟩
    have R4 := Lib.hid (R4.out.below b5)
    have R5 := Lib.hid r5.reads
    have B5 := Lib.hid (B4.out.trans (b5.mono B4.out.size))
    clear r5 b5 B4
    go_wp2_with fail
    refine (same_grp _ n _ rfl _ _ w5 R4.out R5.out (by omega)).mono ?_
    rintro e w6 ⟨rfl, b6⟩
    have B6 := Lib.hid (B5.out.trans (b6.mono B5.out.size))
    clear b6 B5 R4 R5
    go_wp2_with fail
    refine (works_any _).mono ?_
    rintro e w7 ⟨rfl, hb⟩
    have B7 := Lib.hid (B6.out.trans (hb.mono B6.out.size))
    clear hb B6
    go_wp2
    go_ret
    exact ⟨ret_bool (by simp), B7.out⟩
end Go.Proofs.YtfheoplcjeimdaaGreatDoor
