/- Chapter 16: is and convert at the atoms of the example. -/
import Derived.Test.YtajkdllakleakaaGreatDoorMTj
import Derived.Test.YtajkdllakleakaaGreatDoorTo
import Derived.Test.YtajkdllakleakaaGreatDoorM8
namespace Go.Proofs.YtajkdllakleakaaGreatDoor
open Go.RowKit
set_option linter.unusedVariables false
set_option linter.unusedSimpArgs false

theorem bel_rowT {B g : Nat} {a W : World} (h : Below B a W) (hg : B ≤ g) (cs : Array Value) : Below B a (W.setRow g cs) :=
  h.trans ⟨rfl, rfl, rfl, by simp, fun k hk => setRow_other _ _ _ _ (by omega)⟩
def tyA (ta : Int) (oc : ByteArray) : TyP := ⟨2, ta, 0, nS, oc⟩
set_option maxRecDepth 100000 in
theorem is_ex (ak ta : Int) (s oc : ByteArray) (u : Value) (b : Bool) (w : World) (h : (ak = 0 ∧ ta = 3 ∧ b = false) ∨ (ak = 3 ∧ ta = 3 ∧ b = true) ∨ (ak = 3 ∧ ta = 4 ∧ b = true)) :
    Calls Tryz.prog 28 #[u, itV (atomR ak s), tyV (tyA ta oc)] w fun e w' => e = .returned (.bool b) ∧ Below w.heap.size w w' := by
  unfold itV atomR tyV tyA
  rcases h with ⟨rfl, rfl, rfl⟩ | ⟨rfl, rfl, rfl⟩ | ⟨rfl, rfl, rfl⟩
  all_goals
    go_enter Tryz.func28, Tryz.ntmps28
    go_wp2
    go_ret
    exact ⟨rB (by simp), ((Below.refl _ w).alloc (Nat.le_refl _) _).alloc (by simp) _⟩
set_option maxRecDepth 100000 in
set_option maxHeartbeats 2000000 in
theorem convert_ex {s : ByteArray} (hs : OneTwo s) (oc : ByteArray) (u : Value) (w : World) :
    Calls Tryz.prog 13 #[u, .agg #[.int .i64 0, .string s], tyV (tyA 3 oc)] w fun e w' => e = .returned (.tuple #[itV (atomR 3 s), .int .i64 0]) ∧ Below w.heap.size w w' := by
  have HS := Lib.hid hs
  clear hs
  have HI : Hid (∀ W, Calls Tryz.prog 28 #[u, .agg #[.int .i64 0, .int .i64 0, .string s, .int .i64 0, .int .i64 0, .slice none 0 0, .slice none 0 0, .pointer none], .agg #[.int .i64 2, .int .i64 3, .int .i64 0, .string nS, .string oc]] W fun e w' => e = .returned (.bool false) ∧ Below W.heap.size W w') := Lib.hid fun W => is_ex 0 3 s oc u false W (.inl ⟨rfl, rfl, rfl⟩)
  have hinfo : (Tryz.prog.info? 29).map (fun i => i.size) = some 8 := by kernel_rfl
  unfold tyV tyA
  simp only
  go_enter Tryz.func13, Tryz.ntmps13
  go_wp2_with fail
  obtain ⟨W0, hW0⟩ : ∃ W0, (((w.alloc (.cells #[.int .i64 0, .string s] 24)).alloc (.cells #[.int .i64 2, .int .i64 3, .int .i64 0, .string nS, .string oc] 37)).alloc (.cells #[.int .i64 0, .int .i64 0, .string eS, .int .i64 0, .int .i64 0, .slice none 0 0, .slice none 0 0, .pointer none] 29)).alloc (.cells #[.int .i64 0, .int .i64 0, .string s, .int .i64 0, .int .i64 0, .slice none 0 0, .slice none 0 0, .pointer none] 29) = W0 := ⟨_, rfl⟩
  have hb0 : Below w.heap.size w W0 := hW0 ▸ ((((Below.refl _ w).alloc (Nat.le_refl _) _).alloc (by simp) _).alloc (by simp <;> omega) _).alloc (by simp <;> omega) _
  have e0 : W0.heap[w.heap.size]? = some (.cells #[.int .i64 0, .string s] 24 (0, 0)) := hW0 ▸ hp_past (hp_past (hp_past (hp_new rfl)))
  have e2 : W0.heap[w.heap.size + 1 + 1]? = some (.cells #[.int .i64 0, .int .i64 0, .string eS, .int .i64 0, .int .i64 0, .slice none 0 0, .slice none 0 0, .pointer none] 29 (0, 0)) := hW0 ▸ hp_past (hp_new (by simp))
  have hlt0 : w.heap.size + 1 + 1 < W0.heap.size := (Array.getElem?_eq_some_iff.1 e2).1
  refine (HI.out _).mono ?_
  rintro e w1 ⟨rfl, hb⟩
  rw [hW0] at hb
  have HB1 := Lib.hid (hb0.trans (hb.mono hb0.size))
  have HX1 := Lib.hid ((hb.block _ (by omega)).trans e0)
  have HZ1 := Lib.hid ((hb.block _ hlt0).trans e2)
  have hlt1 : w.heap.size + 1 + 1 < w1.heap.size := (Array.getElem?_eq_some_iff.1 HZ1.out).1
  clear hb hb0 e0 e2 hlt0 hW0 HI
  have a0 : w1.cell? ⟨w.heap.size, 0, none⟩ = some (.int .i64 0) := cell_of_row _ _ 0 _ _ _ HX1.out
  have a1 : w1.cell? ⟨w.heap.size, 1, none⟩ = some (.string s) := cell_of_row _ _ 1 _ _ _ HX1.out
  go_wp2_with fail
  refine (Cast_ex HS.out _).mono ?_
  rintro e w2 ⟨rfl, hb⟩
  have HB2 := Lib.hid (HB1.out.trans (hb.mono HB1.out.size))
  have HZ2 := Lib.hid ((hb.block _ hlt1).trans HZ1.out)
  clear hb a0 a1 HB1 HX1 HZ1 hlt1
  go_wp2_with (refine wpList_store_row rfl 29 (.tmp 6) (.tmp 52) rfl (w.heap.size + 1 + 1) ?cells ?hx ?hy 29 ?old ?hg ?hi ?hold ?h1 ?_)
  case hx => rfl
  case hy => rfl
  case old => exact #[.int .i64 0, .int .i64 0, .string eS, .int .i64 0, .int .i64 0, .slice none 0 0, .slice none 0 0, .pointer none]
  case hg => exact hp_past HZ2.out
  case hi => exact hinfo
  case hold => rfl
  case h1 => simp [Value.oneCell']
  have x5 := setRow_heap _ _ _ #[.int .i64 0, .int .i64 3, .string s, .int .i64 0, .int .i64 0, .slice none 0 0, .slice none 0 0, .pointer none] _ _ (hp_past (o := .cells #[.int .i64 3, .string s] 24) HZ2.out)
  obtain ⟨f0, f1, f2, f3, f4, f5, f6, f7⟩ := blk8c x5
  refine bodyPost_ret (v := .tuple #[itV (atomR 3 s), .int .i64 0]) ?_ rfl ⟨rfl, ?_⟩
  · simp [results, Tryz.results13, go_sem, f0, f1, f2, f3, f4, f5, f6, f7, itV, atomR]
  · exact bel_rowT (HB2.out.alloc HB2.out.size _) (by omega) _
end Go.Proofs.YtajkdllakleakaaGreatDoor
