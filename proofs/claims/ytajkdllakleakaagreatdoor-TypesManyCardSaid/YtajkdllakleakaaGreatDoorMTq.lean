/- Chapter 16: of at the atoms of the example. -/
import Derived.Test.YtajkdllakleakaaGreatDoorMTk
import Derived.Test.YtajkdllakleakaaGreatDoorMTv
import Derived.Test.YtajkdllakleakaaGreatDoorM3
import Derived.Test.YtajkdllakleakaaGreatDoorM9
namespace Go.Proofs.YtajkdllakleakaaGreatDoor
open Go.RowKit
set_option linter.unusedVariables false
set_option linter.unusedSimpArgs false

theorem ent_of (args : Array Value) (W : World) : (callFunc 31 args).run Tryz.prog W = .ok (.enter 31 args) W := enters_of Tryz.func31 (by kernel_rfl) rfl args W
def tyC (ta : Int) (oc : ByteArray) : Array Value := #[.int .i64 2, .int .i64 ta, .int .i64 0, .string nS, .string oc]
set_option maxRecDepth 100000 in
theorem of1_ex (ta : Int) (hta : ta = 3 ∨ ta = 4) (s oc : ByteArray) (Bu Bt U : Nat) (w : World) (hbu : w.heap[Bu]? = some (.cells (puV U) 46 (0, 0))) (hbt : w.heap[Bt]? = some (.cells (tyC ta oc) 37 (0, 0))) :
    Calls Tryz.prog 31 #[itV (atomR 3 s), .pointer (some ⟨Bu, 0, none⟩), .pointer (some ⟨Bt, 0, none⟩)] w fun e w' => e = .returned (.bool false) ∧ Below w.heap.size w w' := by
  have HI : Hid (∀ W, Calls Tryz.prog 28 #[.pointer (some ⟨U, 0, none⟩), .agg #[.int .i64 0, .int .i64 3, .string s, .int .i64 0, .int .i64 0, .slice none 0 0, .slice none 0 0, .pointer none], .agg #[.int .i64 2, .int .i64 ta, .int .i64 0, .string nS, .string oc]] W fun e w' => e = .returned (.bool true) ∧ Below W.heap.size W w') := Lib.hid fun W => is_ex 3 ta s oc _ true W (by rcases hta with rfl | rfl; exact .inr (.inl ⟨rfl, rfl, rfl⟩); exact .inr (.inr ⟨rfl, rfl, rfl⟩))
  have c0 : (w.alloc (.cells #[.int .i64 0, .int .i64 3, .string s, .int .i64 0, .int .i64 0, .slice none 0 0, .slice none 0 0, .pointer none] 29)).cell? ⟨Bu, 0, none⟩ = some (.pointer (some ⟨U, 0, none⟩)) := cell_of_row _ _ 0 _ _ _ (hp_past hbu)
  obtain ⟨b0, b1, b2, b3, b4⟩ := cells5 (show (w.alloc (.cells #[.int .i64 0, .int .i64 3, .string s, .int .i64 0, .int .i64 0, .slice none 0 0, .slice none 0 0, .pointer none] 29)).heap[Bt]? = some (.cells #[.int .i64 2, .int .i64 ta, .int .i64 0, .string nS, .string oc] 37 (0, 0)) from hp_past hbt)
  clear hbu hbt
  unfold itV atomR
  go_enter Tryz.func31, Tryz.ntmps31
  go_wp2_with fail
  refine (HI.out _).mono ?_
  rintro e w1 ⟨rfl, hb⟩
  have HB := Lib.hid ((box1 w _ _).trans (hb.mono (by simp)))
  clear hb
  go_wp2
  go_ret
  exact ⟨rfl, HB.out⟩
/-- Between two items of of. -/
structure OfS (w0 W : World) (Bu Bt U L : Nat) (ta : Int) (oc : ByteArray) (x y : IRow) : Prop where
  g : Below w0.heap.size w0 W
  b : W.heap[Bu]? = some (.cells (puV U) 46 (0, 0))
  t : W.heap[Bt]? = some (.cells (tyC ta oc) 37 (0, 0))
  l : W.heap[L]? = some (.cells (twoC x y) 29 (0, 0))
theorem OfS.go {w0 W W' : World} {Bu Bt U L : Nat} {ta : Int} {oc : ByteArray} {x y : IRow} (h : OfS w0 W Bu Bt U L ta oc x y) (hb : Below W.heap.size W W') : OfS w0 W' Bu Bt U L ta oc x y :=
  ⟨h.g.trans (hb.mono h.g.size), (hb.block _ (lt_heap h.b)).trans h.b, (hb.block _ (lt_heap h.t)).trans h.t, (hb.block _ (lt_heap h.l)).trans h.l⟩
theorem has_of (ta : Int) (hta : ta = 3 ∨ ta = 4) (s t oc : ByteArray) (Bu Bt U L : Nat) (w : World) (h : OfS w w Bu Bt U L ta oc (atomR 3 s) (atomR 3 t)) :
    Calls Tryz.prog 24 #[.slice (some ⟨L, 0, none⟩) 2 2, .func (.func 31) #[] #[.pointer (some ⟨Bu, 0, none⟩), .pointer (some ⟨Bt, 0, none⟩)]] w fun e w' => e = .returned (.bool false) ∧ Below w.heap.size w w' := by
  refine (hasNone2_any [atomR 3 s, atomR 3 t] _ _ _ ent_of _ _ (fun _ W => OfS w W Bu Bt U L ta oc (atomR 3 s) (atomR 3 t)) (by simp) ?_ (fun k W h => two_rd h.l) (fun k W o h => h.go ((Below.refl _ _).alloc (Nat.le_refl _) _)) h ?_).mono ?_
  · intro r hr
    simp only [List.mem_cons, List.not_mem_nil, or_false] at hr
    rcases hr with rfl | rfl <;> exact ROk.atomR _ _
  · intro k r W hk hS
    have hr : ∃ q : ByteArray, r = atomR 3 q := by
      match k, hk with
      | 0, hk => cases hk; exact ⟨s, rfl⟩
      | 1, hk => cases hk; exact ⟨t, rfl⟩
    obtain ⟨q, rfl⟩ := hr
    refine (of1_ex ta hta q oc Bu Bt U W hS.b hS.t).mono ?_
    rintro e w' ⟨rfl, hb⟩
    exact ⟨rfl, hS.go hb⟩
  · rintro e w' ⟨rfl, hS⟩
    exact ⟨rfl, hS.g⟩
theorem bnd_star (ta : Int) : bndB ⟨2, ta, 0, nS, { data := #[42] }⟩ = (0, 0, true) := by
  unfold bndB
  rw [if_neg (by simp), if_neg (by simp), if_pos rfl]
theorem bnd_plus (ta : Int) : bndB ⟨2, ta, 0, nS, { data := #[43] }⟩ = (1, 0, true) := by
  unfold bndB
  rw [if_neg (by simp), if_neg (by simp), if_neg (by simp), if_pos rfl]
theorem bnd_one (ta : Int) : bndB ⟨2, ta, 0, nS, nS⟩ = (1, 1, false) := by
  unfold bndB
  rw [if_neg (by simp), if_neg (by simp), if_neg (by simp), if_neg (by simp)]
set_option maxRecDepth 100000 in
theorem of_ex (ta : Int) (hta : ta = 3 ∨ ta = 4) (s t oc : ByteArray) (b : Bool) (hoc : (oc = { data := #[42] } ∧ b = true) ∨ (oc = { data := #[43] } ∧ b = true) ∨ (oc = nS ∧ b = false)) (U L : Nat) (w : World) (hl : w.heap[L]? = some (.cells (twoC (atomR 3 s) (atomR 3 t)) 29 (0, 0))) :
    Calls Tryz.prog 14 #[.pointer (some ⟨U, 0, none⟩), .slice (some ⟨L, 0, none⟩) 2 2, tyV (tyA ta oc)] w fun e w' => e = .returned (.bool b) ∧ Below w.heap.size w w' := by
  have HBn : Hid (∀ W, Calls Tryz.prog 22 #[.agg #[.int .i64 2, .int .i64 ta, .int .i64 0, .string nS, .string oc]] W (BndP (tyA ta oc) W)) := Lib.hid fun W => bounds_any (tyA ta oc) W
  have HH : Hid (∀ W, OfS W W w.heap.size (w.heap.size + 1) U L ta oc (atomR 3 s) (atomR 3 t) → Calls Tryz.prog 24 #[.slice (some ⟨L, 0, none⟩) 2 2, .func (.func 31) #[] #[.pointer (some ⟨w.heap.size, 0, none⟩), .pointer (some ⟨w.heap.size + 1, 0, none⟩)]] W fun e w' => e = .returned (.bool false) ∧ Below W.heap.size W w') := Lib.hid fun W h => has_of ta hta s t oc _ _ U L W h
  have hb0 := bel2 w (puV U) (tyC ta oc) 46 37
  have HO : Hid (OfS w ((w.alloc (.cells (puV U) 46)).alloc (.cells (tyC ta oc) 37)) w.heap.size (w.heap.size + 1) U L ta oc (atomR 3 s) (atomR 3 t)) := Lib.hid ⟨hb0, hp_past (hp_new rfl), hp_new (by simp), hp_past (hp_past hl)⟩
  clear hl hb0 hta
  unfold tyV tyA at *
  simp only at HBn ⊢
  unfold puV tyC at HO
  rcases hoc with ⟨rfl, rfl⟩ | ⟨rfl, rfl⟩ | ⟨rfl, rfl⟩
  · go_enter Tryz.func14, Tryz.ntmps14
    go_wp2_with fail
    refine (HBn.out _).mono ?_
    rintro e w1 ⟨rfl, hb⟩
    have HO1 := Lib.hid (HO.out.go hb)
    clear hb HO HBn
    simp only [bnd_star]
    go_wp2_with fail
    refine (HH.out _ ⟨Below.refl _ _, HO1.out.b, HO1.out.t, HO1.out.l⟩).mono ?_
    rintro e w2 ⟨rfl, hb⟩
    have HB2 := Lib.hid (HO1.out.g.trans (hb.mono HO1.out.g.size))
    clear hb HO1
    go_wp2
    go_ret
    exact ⟨rfl, HB2.out⟩
  · go_enter Tryz.func14, Tryz.ntmps14
    go_wp2_with fail
    refine (HBn.out _).mono ?_
    rintro e w1 ⟨rfl, hb⟩
    have HO1 := Lib.hid (HO.out.go hb)
    clear hb HO HBn
    simp only [bnd_plus]
    go_wp2_with fail
    refine (HH.out _ ⟨Below.refl _ _, HO1.out.b, HO1.out.t, HO1.out.l⟩).mono ?_
    rintro e w2 ⟨rfl, hb⟩
    have HB2 := Lib.hid (HO1.out.g.trans (hb.mono HO1.out.g.size))
    clear hb HO1
    go_wp2
    go_ret
    exact ⟨rfl, HB2.out⟩
  · go_enter Tryz.func14, Tryz.ntmps14
    go_wp2_with fail
    refine (HBn.out _).mono ?_
    rintro e w1 ⟨rfl, hb⟩
    have HO1 := Lib.hid (HO.out.go hb)
    clear hb HO HBn
    simp only [bnd_one]
    go_wp2
    go_ret
    exact ⟨rfl, HO1.out.g⟩
end Go.Proofs.YtajkdllakleakaaGreatDoor
