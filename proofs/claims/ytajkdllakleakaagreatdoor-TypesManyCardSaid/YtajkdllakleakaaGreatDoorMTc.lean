/- package tree: the example's tree: its nodes are allowed, above each other, placed; it is valid. -/
import Derived.Test.YtajkdllakleakaaGreatDoorM7
import Derived.Test.YtajkdllakleakaaGreatDoorM3
namespace Go.Proofs.YtajkdllakleakaaGreatDoor
open Go.RowKit
set_option linter.unusedVariables false
set_option linter.unusedSimpArgs false

theorem tx_e : isTextB eS = true := by decide +kernel
theorem tx_o : isTextB oS = true := by decide +kernel
theorem tx_w : isTextB wS = true := by decide +kernel
theorem nm_a : nameB aS = true := by decide +kernel
theorem nm_x : nameB xS = true := by decide +kernel
theorem text_ok (s : ByteArray) (w : World) (hs : s.size ≤ 1000) (h : isTextB s = true) : Calls Tryz.prog 57 #[.string s] w fun e w' => e = .returned (.bool true) ∧ Below w.heap.size w w' := by
  refine (isText_any s w (by omega)).mono ?_
  rintro e w1 ⟨rfl, pos, rfl⟩
  exact ⟨by rw [h], (Below.refl _ _).alloc (Nat.le_refl _) _⟩
theorem name_ok (s : ByteArray) (w : World) (hs : s.size ≤ 1000) (h : nameB s = true) : Calls Tryz.prog 55 #[.string s] w fun e w' => e = .returned (.bool true) ∧ Below w.heap.size w w' := by
  refine (isName_any s w (by omega)).mono ?_
  rintro e w1 ⟨rfl, hb⟩
  exact ⟨by rw [h], hb⟩
set_option maxRecDepth 100000 in
theorem allowed0 (w : World) : Calls Tryz.prog 59 #[.int .i64 0, .string eS, .string eS] w (AllP w) := by
  go_enter Tryz.func59, Tryz.ntmps59
  go_wp2_with fail
  refine (text_ok _ _ (by decide) tx_e).mono ?_
  rintro e w1 ⟨rfl, hb⟩
  go_wp2
  go_ret
  exact ⟨rB (by simp), hb⟩
set_option maxRecDepth 100000 in
theorem allowed1 (w : World) : Calls Tryz.prog 59 #[.int .i64 1, .string aS, .string eS] w (AllP w) := by
  go_enter Tryz.func59, Tryz.ntmps59
  go_wp2_with fail
  refine (text_ok _ _ (by decide) tx_e).mono ?_
  rintro e w1 ⟨rfl, hb⟩
  go_wp2_with fail
  refine (name_ok _ _ (by decide) nm_a).mono ?_
  rintro e w2 ⟨rfl, hb2⟩
  go_wp2
  go_ret
  exact ⟨rB (by simp), hb.trans (hb2.mono hb.size)⟩
set_option maxRecDepth 100000 in
theorem allowed2 (w : World) : Calls Tryz.prog 59 #[.int .i64 2, .string xS, .string oS] w (AllP w) := by
  go_enter Tryz.func59, Tryz.ntmps59
  go_wp2_with fail
  refine (text_ok _ _ (by decide) tx_o).mono ?_
  rintro e w1 ⟨rfl, hb⟩
  go_wp2_with fail
  refine (name_ok _ _ (by decide) nm_x).mono ?_
  rintro e w2 ⟨rfl, hb2⟩
  go_wp2
  go_ret
  exact ⟨rB (by simp), hb.trans (hb2.mono hb.size)⟩
set_option maxRecDepth 100000 in
theorem allowed3 (w : World) : Calls Tryz.prog 59 #[.int .i64 3, .string eS, .string wS] w (AllP w) := by
  go_enter Tryz.func59, Tryz.ntmps59
  go_wp2_with fail
  refine (text_ok _ _ (by decide) tx_w).mono ?_
  rintro e w1 ⟨rfl, hb⟩
  go_wp2
  go_ret
  exact ⟨rB (by simp), hb⟩
end Go.Proofs.YtajkdllakleakaaGreatDoor
