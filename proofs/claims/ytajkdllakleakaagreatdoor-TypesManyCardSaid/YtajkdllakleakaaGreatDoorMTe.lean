/- package tree: the example's tree is valid. -/
import Derived.Test.YtajkdllakleakaaGreatDoorMTc
import Derived.Test.YtajkdllakleakaaGreatDoorMTd
namespace Go.Proofs.YtajkdllakleakaaGreatDoor
open Go.RowKit
set_option linter.unusedVariables false
set_option linter.unusedSimpArgs false

def lastT : Nat → Array Value
  | 0 | 1 => #[.int .i64 0, .int .i64 0, .int .i64 0, .int .i64 0]
  | 2 => #[.int .i64 1, .int .i64 0, .int .i64 0, .int .i64 0]
  | 3 => #[.int .i64 1, .int .i64 2, .int .i64 0, .int .i64 0]
  | _ => #[.int .i64 1, .int .i64 3, .int .i64 0, .int .i64 0]
def deepT : Nat → Array Value
  | 0 | 1 => #[.int .i64 1, .int .i64 0, .int .i64 0, .int .i64 0]
  | 2 => #[.int .i64 1, .int .i64 2, .int .i64 0, .int .i64 0]
  | 3 => #[.int .i64 1, .int .i64 2, .int .i64 3, .int .i64 0]
  | _ => #[.int .i64 1, .int .i64 2, .int .i64 3, .int .i64 3]
theorem lt_heap {W : World} {X : Nat} {o : Obj} (h : W.heap[X]? = some o) : X < W.heap.size := (Array.getElem?_eq_some_iff.1 h).1
theorem frz_of {W : World} {X : Nat} {t : TypeId} {cs : Array Value} (h : W.heap[X]? = some (.cells cs t (0, 0))) (i : Nat) : W.frozen? ⟨X, i, none⟩ = false := by simp [World.frozen?, h]
theorem set_other {W : World} {X D i : Nat} {v : Value} (h : X ≠ D) : (W.setCell ⟨D, i, none⟩ v).heap[X]? = W.heap[X]? := by
  unfold World.setCell
  have h2 : D ≠ X := fun e => h e.symm
  simp [Array.getElem?_modify, h2]
theorem set_same {W : World} {X i : Nat} {t : TypeId} {cs : Array Value} (h : W.heap[X]? = some (.cells cs t (0, 0))) (v : Value) : (W.setCell ⟨X, i, none⟩ v).heap[X]? = some (.cells (cs.setIfInBounds i v) t (0, 0)) := by
  unfold World.setCell
  simp [Array.getElem?_modify, h]
/-- The state of Check. -/
structure ChS (w W : World) (B L D Y k kd : Nat) : Prop where
  b : Below w.heap.size w W
  t : W.heap[B]? = some (.cells #[.slice (some ⟨Y, 0, none⟩) 4 4] 73 (0, 0))
  l : W.heap[L]? = some (.cells (lastT k) 3 (0, 0))
  d : W.heap[D]? = some (.cells (deepT kd) 3 (0, 0))
  y : W.heap[Y]? = some (.cells ndC 70 (0, 0))
  bl : w.heap.size ≤ L
  bd : w.heap.size ≤ D
  lt : B < W.heap.size ∧ L < W.heap.size ∧ D < W.heap.size ∧ Y < W.heap.size
  ne : L ≠ D ∧ B ≠ D ∧ B ≠ L ∧ Y ≠ D ∧ Y ≠ L
theorem ChS.go {w W W' : World} {B L D Y k kd : Nat} (h : ChS w W B L D Y k kd) (hb : Below W.heap.size W W') : ChS w W' B L D Y k kd :=
  ⟨h.b.trans (hb.mono h.b.size), (hb.block _ h.lt.1).trans h.t, (hb.block _ h.lt.2.1).trans h.l, (hb.block _ h.lt.2.2.1).trans h.d, (hb.block _ h.lt.2.2.2).trans h.y, h.bl, h.bd, by have := hb.size; have := h.lt; omega, h.ne⟩
theorem ChS.setD {w W : World} {B L D Y k kd kd' i : Nat} {v : Value} (h : ChS w W B L D Y k kd) (e : (deepT kd).setIfInBounds i v = deepT kd') : ChS w (W.setCell ⟨D, i, none⟩ v) B L D Y k kd' := by
  obtain ⟨n1, n2, n3, n4, n5⟩ := h.ne
  exact ⟨h.b.setCell (p := ⟨D, i, none⟩) h.bd _, (set_other n2).trans h.t, (set_other n1).trans h.l, (set_same h.d v).trans (by rw [e]), (set_other n4).trans h.y, h.bl, h.bd, by simpa using h.lt, h.ne⟩
theorem ChS.setL {w W : World} {B L D Y k k' kd i : Nat} {v : Value} (h : ChS w W B L D Y k kd) (e : (lastT k).setIfInBounds i v = lastT k') : ChS w (W.setCell ⟨L, i, none⟩ v) B L D Y k' kd := by
  obtain ⟨n1, n2, n3, n4, n5⟩ := h.ne
  exact ⟨h.b.setCell (p := ⟨L, i, none⟩) h.bl _, (set_other n3).trans h.t, (set_same h.l v).trans (by rw [e]), (set_other (fun e => n1 e.symm)).trans h.d, (set_other n5).trans h.y, h.bl, h.bd, by simpa using h.lt, h.ne⟩
theorem make4 : ∀ W : World, (Instr.makeSlice 126 (.int .i64 4) (.int .i64 4)).run Tryz.prog W = .ok (.slice (some ⟨W.heap.size, 0, none⟩) 4 4) (W.alloc (.cells #[.int .i64 0, .int .i64 0, .int .i64 0, .int .i64 0] 3)) := fun W => by
  kernel_rfl
theorem list21 {l : List Value} (h : l.length = 21) : ∃ y0 y1 y2 y3 y4 y5 y6 y7 y8 y9 y10 y11 y12 y13 y14 y15 y16 y17 y18 y19 y20, l = [y0, y1, y2, y3, y4, y5, y6, y7, y8, y9, y10, y11, y12, y13, y14, y15, y16, y17, y18, y19, y20] := by
  match l, h with
  | y0 :: y1 :: y2 :: y3 :: y4 :: y5 :: y6 :: y7 :: y8 :: y9 :: y10 :: y11 :: y12 :: y13 :: y14 :: y15 :: y16 :: y17 :: y18 :: y19 :: y20 :: [], _ => exact ⟨y0, y1, y2, y3, y4, y5, y6, y7, y8, y9, y10, y11, y12, y13, y14, y15, y16, y17, y18, y19, y20, rfl⟩
def ck1 (B L D X Y : Nat) : Nat → Value → World → Prop
  | 0 => fun v _ => v = .agg #[.slice (some ⟨Y, 0, none⟩) 4 4]
  | 1 => fun v _ => v = .int .i64 1
  | 2 => fun v _ => v = .slice (some ⟨L, 0, none⟩) 4 4
  | 3 => fun v _ => v = .pointer (some ⟨X, 3, none⟩)
  | 4 => fun v _ => v = .int .i64 0
  | 5 => fun v _ => v = .pointer (some ⟨L, 0, none⟩)
  | 6 => fun v _ => v = .int .i64 0
  | 7 => fun v _ => v = .bool true
  | 8 => fun v _ => v = .bool false
  | 9 => fun v _ => v = .bool false
  | 10 => fun v _ => v = .pointer (some ⟨X, 0, none⟩)
  | 11 => fun v _ => v = .int .i64 1
  | 12 => fun v _ => v = .bool true
  | 13 => fun v _ => v = .bool true
  | 14 => fun v _ => v = .slice (some ⟨D, 0, none⟩) 4 4
  | 15 => fun v _ => v = .int .i64 1
  | 16 => fun v _ => v = .pointer (some ⟨D, 1, none⟩)
  | 17 => fun v _ => v = .int .i64 2
  | 18 => fun v _ => v = .bool false
  | 19 => fun v _ => v = .bool false
  | 20 => fun v _ => v = .bool false
  | _ => fun _ _ => True
theorem ck1m (B L D X Y : Nat) (jx : Nat) (v : Value) (w w' : World) (hb : Below w.heap.size w w') (h : ck1 B L D X Y jx v w) : ck1 B L D X Y jx v w' := by
  unfold ck1 at h ⊢
  split at h
  all_goals first | exact h | trivial
def ck2 (B L D X Y : Nat) : Nat → Value → World → Prop
  | 0 => fun v _ => v = .agg #[.slice (some ⟨Y, 0, none⟩) 4 4]
  | 1 => fun v _ => v = .int .i64 2
  | 2 => fun v _ => v = .slice (some ⟨L, 0, none⟩) 4 4
  | 3 => fun v _ => v = .pointer (some ⟨X, 3, none⟩)
  | 4 => fun v _ => v = .int .i64 1
  | 5 => fun v _ => v = .pointer (some ⟨L, 1, none⟩)
  | 6 => fun v _ => v = .int .i64 0
  | 7 => fun v _ => v = .bool true
  | 8 => fun v _ => v = .bool false
  | 9 => fun v _ => v = .bool false
  | 10 => fun v _ => v = .pointer (some ⟨X, 0, none⟩)
  | 11 => fun v _ => v = .int .i64 2
  | 12 => fun v _ => v = .bool false
  | 13 => fun v _ => v = .bool false
  | 14 => fun _ _ => True
  | 15 => fun _ _ => True
  | 16 => fun _ _ => True
  | 17 => fun _ _ => True
  | 18 => fun _ _ => True
  | 19 => fun v _ => v = .bool false
  | 20 => fun v _ => v = .bool false
  | _ => fun _ _ => True
theorem ck2m (B L D X Y : Nat) (jx : Nat) (v : Value) (w w' : World) (hb : Below w.heap.size w w') (h : ck2 B L D X Y jx v w) : ck2 B L D X Y jx v w' := by
  unfold ck2 at h ⊢
  split at h
  all_goals first | exact h | trivial
def ck3 (B L D X Y : Nat) : Nat → Value → World → Prop
  | 0 => fun v _ => v = .agg #[.slice (some ⟨Y, 0, none⟩) 4 4]
  | 1 => fun v _ => v = .int .i64 3
  | 2 => fun v _ => v = .slice (some ⟨L, 0, none⟩) 4 4
  | 3 => fun v _ => v = .pointer (some ⟨X, 3, none⟩)
  | 4 => fun v _ => v = .int .i64 1
  | 5 => fun v _ => v = .pointer (some ⟨L, 1, none⟩)
  | 6 => fun v _ => v = .int .i64 2
  | 7 => fun v _ => v = .bool true
  | 8 => fun v _ => v = .bool false
  | 9 => fun v _ => v = .bool false
  | 10 => fun v _ => v = .pointer (some ⟨X, 0, none⟩)
  | 11 => fun v _ => v = .int .i64 3
  | 12 => fun v _ => v = .bool true
  | 13 => fun v _ => v = .bool true
  | 14 => fun v _ => v = .slice (some ⟨D, 0, none⟩) 4 4
  | 15 => fun v _ => v = .int .i64 3
  | 16 => fun v _ => v = .pointer (some ⟨D, 3, none⟩)
  | 17 => fun v _ => v = .int .i64 3
  | 18 => fun v _ => v = .bool false
  | 19 => fun v _ => v = .bool false
  | 20 => fun v _ => v = .bool false
  | _ => fun _ _ => True
theorem ck3m (B L D X Y : Nat) (jx : Nat) (v : Value) (w w' : World) (hb : Below w.heap.size w w') (h : ck3 B L D X Y jx v w) : ck3 B L D X Y jx v w' := by
  unfold ck3 at h ⊢
  split at h
  all_goals first | exact h | trivial
set_option maxRecDepth 100000 in
set_option maxHeartbeats 8000000 in
theorem check_ex (Y : Nat) (w : World) (hy : w.heap[Y]? = some (.cells ndC 70 (0, 0))) : Calls Tryz.prog 45 #[tr1 Y] w fun e w' => e = .returned (.int .i64 0) ∧ Below w.heap.size w w' := by
  have hYl := (Array.getElem?_eq_some_iff.1 hy).1
  have hy1 := hp_past (o := .cells #[.slice (some ⟨Y, 0, none⟩) 4 4] 73) hy
  have n3 : (w.alloc (.cells #[.slice (some ⟨Y, 0, none⟩) 4 4] 73)).cell? ⟨Y, 3, none⟩ = some (.int .i64 (-1)) := nd_cell hy1
  have HS0 : Hid (ChS w (((w.alloc (.cells #[.slice (some ⟨Y, 0, none⟩) 4 4] 73)).alloc (.cells #[.int .i64 0, .int .i64 0, .int .i64 0, .int .i64 0] 3)).alloc (.cells #[.int .i64 1, .int .i64 0, .int .i64 0, .int .i64 0] 3)) w.heap.size (w.heap.size + 1) (w.heap.size + 1 + 1) Y 0 0) :=
    Lib.hid ⟨(((Below.refl _ w).alloc (Nat.le_refl _) _).alloc (by simp) _).alloc (by simp <;> omega) _, hp_past (hp_past (hp_new rfl)), hp_past (hp_new (by simp)), hp_new (by simp), hp_past (hp_past hy1), by omega, by omega, by simp; omega, by omega⟩
  have mk := make4
  clear hy1 hy hYl
  unfold tr1
  go_enter Tryz.func45, Tryz.ntmps45
  go_wp2
  generalize (((w.alloc (.cells #[.slice (some ⟨Y, 0, none⟩) 4 4] 73)).alloc (.cells #[.int .i64 0, .int .i64 0, .int .i64 0, .int .i64 0] 3)).alloc (.cells #[.int .i64 1, .int .i64 0, .int .i64 0, .int .i64 0] 3)) = W0 at *
  clear n3 mk
  generalize hL : w.heap.size + 1 = L at *
  generalize hD : L + 1 = D at *
  obtain ⟨B, hB⟩ : ∃ B, w.heap.size = B := ⟨_, rfl⟩
  simp only [hB] at HS0
  simp only [hB]
  go_loopw [38] (fun i wr => ∃ k : Nat, k ≤ 4 ∧ i = .int .i64 k ∧ Hid (ChS w wr B L D Y k k)) (fun i _ => 4 - (intOf i).toNat)
  case atStart => exact ⟨0, by omega, rfl, HS0⟩
  case round =>
    obtain ⟨k, hk, rfl, HS⟩ := hrel
    clear HS0
    have hk' : k = 0 ∨ k = 1 ∨ k = 2 ∨ k = 3 ∨ k = 4 := by omega
    rcases hk' with rfl | rfl | rfl | rfl | rfl
    · have hlt := HS.out.lt
      have n0 : wr.cell? ⟨Y, 0, none⟩ = some (.int .i64 0) := nd_cell HS.out.y
      have n1 : wr.cell? ⟨Y, 1, none⟩ = some (.string eS) := nd_cell HS.out.y
      have n2 : wr.cell? ⟨Y, 2, none⟩ = some (.string eS) := nd_cell HS.out.y
      have n3 : wr.cell? ⟨Y, 3, none⟩ = some (.int .i64 (-1)) := nd_cell HS.out.y
      go_wp2_with fail
      refine (allowed0 _).mono ?_
      rintro e w1 ⟨rfl, hb1⟩
      have X1 := (hb1.block wr.heap.size (by simp)).trans (hp_new (w := wr) (o := .cells #[.int .i64 0, .string eS, .string eS, .int .i64 (-1)] 70) rfl)
      have HS1 := Lib.hid (HS.out.go ((box1 wr _ _).trans (hb1.mono (by simp))))
      have hX : wr.heap.size < w1.heap.size := by have := hb1.size; simp at this; omega
      generalize hXe : wr.heap.size = X at *
      have HXB : Hid (B < X ∧ L < X ∧ D < X ∧ Y < X) := Lib.hid (by have := HS.out.lt; omega)
      have hh1 := hb1
      clear hb1 hh1 hlt n0 n1 n2 n3
      obtain ⟨m0, m1, m2, m3⟩ := cells4 X1
      go_wp2
      go_roundw
      case rel => exact ⟨1, by omega, rfl, Lib.hid ⟨HS1.out.b, HS1.out.t, HS1.out.l, HS1.out.d, HS1.out.y, HS1.out.bl, HS1.out.bd, HS1.out.lt, HS1.out.ne⟩⟩
      case measure => simp [intOf]
    · have hlt := HS.out.lt
      have n4 : wr.cell? ⟨Y, 4, none⟩ = some (.int .i64 1) := nd_cell HS.out.y
      have n5 : wr.cell? ⟨Y, 5, none⟩ = some (.string aS) := nd_cell HS.out.y
      have n6 : wr.cell? ⟨Y, 6, none⟩ = some (.string eS) := nd_cell HS.out.y
      have n7 : wr.cell? ⟨Y, 7, none⟩ = some (.int .i64 0) := nd_cell HS.out.y
      go_wp2_with fail
      refine (allowed1 _).mono ?_
      rintro e w1 ⟨rfl, hb1⟩
      have X1 := (hb1.block wr.heap.size (by simp)).trans (hp_new (w := wr) (o := .cells #[.int .i64 1, .string aS, .string eS, .int .i64 0] 70) rfl)
      have HS1 := Lib.hid (HS.out.go ((box1 wr _ _).trans (hb1.mono (by simp))))
      have hX : wr.heap.size < w1.heap.size := by have := hb1.size; simp at this; omega
      generalize hXe : wr.heap.size = X at *
      have HXB : Hid (B < X ∧ L < X ∧ D < X ∧ Y < X) := Lib.hid (by have := HS.out.lt; omega)
      have hh1 := hb1
      clear hb1 hh1 hlt n4 n5 n6 n7
      obtain ⟨m0, m1, m2, m3⟩ := cells4 X1
      have cB := cell_of_row w1 B 0 _ _ _ HS1.out.t
      go_wp2_with fail
      refine (above_ex _ _ Y _ (by omega) HS1.out.y).mono ?_
      rintro e w2 ⟨rfl, hb2⟩
      have X2 := (hb2.block X hX).trans X1
      have HS2 := Lib.hid (HS1.out.go hb2)
      have hX2 : X < w2.heap.size := by have := hb2.size; omega
      clear hb2 HS1 X1 m0 m1 m2 m3 cB hX
      obtain ⟨m0, m1, m2, m3⟩ := cells4 X2
      obtain ⟨d0, d1, d2, d3⟩ := cells4 (show w2.heap[D]? = some (.cells #[.int .i64 1, .int .i64 0, .int .i64 0, .int .i64 0] 3 (0, 0)) from HS2.out.d)
      have cB := cell_of_row w2 B 0 _ _ _ HS2.out.t
      obtain ⟨l0, l1, l2, l3⟩ := cells4 (show w2.heap[L]? = some (.cells #[.int .i64 0, .int .i64 0, .int .i64 0, .int .i64 0] 3 (0, 0)) from HS2.out.l)
      have fd := fun i => frz_of HS2.out.d i
      have fl := fun i => frz_of HS2.out.l i
      go_wp2_with fail
      obtain ⟨W3, hW3⟩ : ∃ W3, w2.setCell ⟨D, 1, none⟩ (.int .i64 2) = W3 := ⟨_, rfl⟩
      have HS3 : Hid (ChS w W3 B L D Y 1 2) := Lib.hid (hW3 ▸ HS2.out.setD (by rfl))
      have X3 : W3.heap[X]? = some (.cells #[.int .i64 1, .string aS, .string eS, .int .i64 0] 70 (0, 0)) := hW3 ▸ (set_other (by have := HXB.out; omega)).trans X2
      have hX3 : X < W3.heap.size := lt_heap X3
      rw [hW3]
      clear hW3 X2 HS2 hX2 m0 m1 m2 m3 d0 d1 d2 d3 l0 l1 l2 l3 cB fd fl
      obtain ⟨m0, m1, m2, m3⟩ := cells4 X3
      obtain ⟨d0, d1, d2, d3⟩ := cells4 (show W3.heap[D]? = some (.cells #[.int .i64 1, .int .i64 2, .int .i64 0, .int .i64 0] 3 (0, 0)) from HS3.out.d)
      have cB : W3.cell? ⟨B, 0, none⟩ = some (.slice (some ⟨Y, 0, none⟩) 4 4) := cell_of_row W3 B 0 _ _ _ HS3.out.t
      obtain ⟨l0, l1, l2, l3⟩ := cells4 (show W3.heap[L]? = some (.cells #[.int .i64 0, .int .i64 0, .int .i64 0, .int .i64 0] 3 (0, 0)) from HS3.out.l)
      clear m0 m1 m2 m3 d0 d1 d2 d3 l0 l1 l2 l3 cB
      refine wp_region_drawn (by kernel_rfl) 21 112 [85, 86, 87, 88, 89, 90, 91, 92, 93, 94, 95, 96, 97, 98, 99, 100, 101, 102, 103, 104, 105] (ck1 B L D X Y) rfl (by kernel_rfl) (ck1m _ _ _ _ _) ?_ ?_
      · intro i o hi ho ys W hys hb hdep
        obtain ⟨y0, y1, y2, y3, y4, y5, y6, y7, y8, y9, y10, y11, y12, y13, y14, y15, y16, y17, y18, y19, y20, rfl⟩ := list21 hys
        have hi' : i = 0 ∨ i = 1 ∨ i = 2 ∨ i = 3 ∨ i = 4 ∨ i = 5 ∨ i = 6 ∨ i = 7 ∨ i = 8 ∨ i = 9 ∨ i = 10 ∨ i = 11 ∨ i = 12 ∨ i = 13 ∨ i = 14 ∨ i = 15 ∨ i = 16 ∨ i = 17 ∨ i = 18 ∨ i = 19 ∨ i = 20 := by omega
        simp only [setM, List.setIfInBounds_toArray, List.set_cons_zero, List.set_cons_succ]
        rcases hi' with rfl | rfl | rfl | rfl | rfl | rfl | rfl | rfl | rfl | rfl | rfl | rfl | rfl | rfl | rfl | rfl | rfl | rfl | rfl | rfl | rfl
        · cases ho
          have cB : W.cell? ⟨B, 0, none⟩ = some (.slice (some ⟨Y, 0, none⟩) 4 4) := cell_of_row W B 0 _ _ _ (HS3.out.go hb).t
          go_wp2
          exact ⟨rfl, _, rfl, Below.refl _ _, rfl⟩
        · cases ho
          go_wp2
          exact ⟨rfl, _, rfl, Below.refl _ _, rfl⟩
        · cases ho
          go_wp2
          exact ⟨rfl, _, rfl, Below.refl _ _, rfl⟩
        · cases ho
          go_wp2
          exact ⟨rfl, _, rfl, Below.refl _ _, rfl⟩
        · cases ho
          obtain rfl : y3 = .pointer (some ⟨X, 3, none⟩) := hdep 3 (by omega) (by kernel_rfl)
          obtain ⟨p0, p1, p2, p3⟩ := cells4 ((hb.block X hX3).trans X3)
          go_wp2
          exact ⟨rfl, _, rfl, Below.refl _ _, rfl⟩
        · cases ho
          obtain rfl : y2 = .slice (some ⟨L, 0, none⟩) 4 4 := hdep 2 (by omega) (by kernel_rfl)
          obtain rfl : y4 = .int .i64 0 := hdep 4 (by omega) (by kernel_rfl)
          go_wp2
          exact ⟨rfl, _, rfl, Below.refl _ _, rfl⟩
        · cases ho
          obtain rfl : y5 = .pointer (some ⟨L, 0, none⟩) := hdep 5 (by omega) (by kernel_rfl)
          obtain ⟨q0, q1, q2, q3⟩ := cells4 (show W.heap[L]? = some (.cells #[.int .i64 0, .int .i64 0, .int .i64 0, .int .i64 0] 3 (0, 0)) from (HS3.out.go hb).l)
          go_wp2
          exact ⟨rfl, _, rfl, Below.refl _ _, rfl⟩
        · cases ho
          obtain rfl : y0 = .agg #[.slice (some ⟨Y, 0, none⟩) 4 4] := hdep 0 (by omega) (by kernel_rfl)
          obtain rfl : y1 = .int .i64 1 := hdep 1 (by omega) (by kernel_rfl)
          obtain rfl : y6 = .int .i64 0 := hdep 6 (by omega) (by kernel_rfl)
          go_wp2_with fail
          refine (placed_ex 1 0 Y _ (by omega) (HS3.out.go hb).y).mono ?_
          rintro e w1 ⟨rfl, hb1⟩
          go_wp2
          exact ⟨rfl, _, rfl, hb1, rfl⟩
        · cases ho
          obtain rfl : y7 = .bool true := hdep 7 (by omega) (by kernel_rfl)
          go_wp2
          exact ⟨rfl, _, rfl, Below.refl _ _, rfl⟩
        · cases ho
          obtain rfl : y8 = .bool false := hdep 8 (by omega) (by kernel_rfl)
          go_wp2
          exact ⟨rfl, _, rfl, Below.refl _ _, rfl⟩
        · cases ho
          obtain rfl : y9 = .bool false := hdep 9 (by omega) (by kernel_rfl)
          go_wp2
          exact ⟨rfl, _, rfl, Below.refl _ _, rfl⟩
        · cases ho
          obtain rfl : y10 = .pointer (some ⟨X, 0, none⟩) := hdep 10 (by omega) (by kernel_rfl)
          obtain rfl : y9 = .bool false := hdep 9 (by omega) (by kernel_rfl)
          obtain ⟨p0, p1, p2, p3⟩ := cells4 ((hb.block X hX3).trans X3)
          go_wp2
          exact ⟨rfl, _, rfl, Below.refl _ _, rfl⟩
        · cases ho
          obtain rfl : y11 = .int .i64 1 := hdep 11 (by omega) (by kernel_rfl)
          obtain rfl : y9 = .bool false := hdep 9 (by omega) (by kernel_rfl)
          go_wp2
          exact ⟨rfl, _, rfl, Below.refl _ _, rfl⟩
        · cases ho
          obtain rfl : y12 = .bool true := hdep 12 (by omega) (by kernel_rfl)
          obtain rfl : y9 = .bool false := hdep 9 (by omega) (by kernel_rfl)
          go_wp2
          exact ⟨rfl, _, rfl, Below.refl _ _, rfl⟩
        · cases ho
          obtain rfl : y13 = .bool true := hdep 13 (by omega) (by kernel_rfl)
          go_wp2
          exact ⟨rfl, _, rfl, Below.refl _ _, rfl⟩
        · cases ho
          obtain rfl : y13 = .bool true := hdep 13 (by omega) (by kernel_rfl)
          go_wp2
          exact ⟨rfl, _, rfl, Below.refl _ _, rfl⟩
        · cases ho
          obtain rfl : y14 = .slice (some ⟨D, 0, none⟩) 4 4 := hdep 14 (by omega) (by kernel_rfl)
          obtain rfl : y15 = .int .i64 1 := hdep 15 (by omega) (by kernel_rfl)
          obtain rfl : y13 = .bool true := hdep 13 (by omega) (by kernel_rfl)
          go_wp2
          exact ⟨rfl, _, rfl, Below.refl _ _, rfl⟩
        · cases ho
          obtain rfl : y16 = .pointer (some ⟨D, 1, none⟩) := hdep 16 (by omega) (by kernel_rfl)
          obtain rfl : y13 = .bool true := hdep 13 (by omega) (by kernel_rfl)
          obtain ⟨q0, q1, q2, q3⟩ := cells4 (show W.heap[D]? = some (.cells #[.int .i64 1, .int .i64 2, .int .i64 0, .int .i64 0] 3 (0, 0)) from (HS3.out.go hb).d)
          go_wp2
          exact ⟨rfl, _, rfl, Below.refl _ _, rfl⟩
        · cases ho
          obtain rfl : y17 = .int .i64 2 := hdep 17 (by omega) (by kernel_rfl)
          obtain rfl : y13 = .bool true := hdep 13 (by omega) (by kernel_rfl)
          go_wp2
          exact ⟨rfl, _, rfl, Below.refl _ _, rfl⟩
        · cases ho
          obtain rfl : y13 = .bool true := hdep 13 (by omega) (by kernel_rfl)
          obtain rfl : y18 = .bool false := hdep 18 (by omega) (by kernel_rfl)
          obtain rfl : y9 = .bool false := hdep 9 (by omega) (by kernel_rfl)
          go_wp2
          exact ⟨rfl, _, rfl, Below.refl _ _, rfl⟩
        · cases ho
          obtain rfl : y9 = .bool false := hdep 9 (by omega) (by kernel_rfl)
          obtain rfl : y19 = .bool false := hdep 19 (by omega) (by kernel_rfl)
          go_wp2
          exact ⟨rfl, _, rfl, Below.refl _ _, rfl⟩
      · intro ys W hys hb hall
        obtain ⟨y0, y1, y2, y3, y4, y5, y6, y7, y8, y9, y10, y11, y12, y13, y14, y15, y16, y17, y18, y19, y20, rfl⟩ := list21 hys
        simp only [setM, List.setIfInBounds_toArray, List.set_cons_zero, List.set_cons_succ]
        obtain rfl : y20 = .bool false := hall 20 (by omega)
        clear hall
        simp only [List.drop_succ_cons, List.drop_zero]
        have HS4 := Lib.hid (HS3.out.go hb)
        have X4 := (hb.block X hX3).trans X3
        have hX4 : X < W.heap.size := lt_heap X4
        have fl := fun i => frz_of HS4.out.l i
        obtain ⟨p0, p1, p2, p3⟩ := cells4 X4
        obtain ⟨q0, q1, q2, q3⟩ := cells4 (show W.heap[L]? = some (.cells #[.int .i64 0, .int .i64 0, .int .i64 0, .int .i64 0] 3 (0, 0)) from HS4.out.l)
        clear hb HS3 X3 hX3 X4
        generalize W = W4 at *
        go_wp2
        go_roundw
        case rel => exact ⟨2, by omega, rfl, Lib.hid (HS4.out.setL (by rfl))⟩
        case measure => simp [intOf]
    · have hlt := HS.out.lt
      have n8 : wr.cell? ⟨Y, 8, none⟩ = some (.int .i64 2) := nd_cell HS.out.y
      have n9 : wr.cell? ⟨Y, 9, none⟩ = some (.string xS) := nd_cell HS.out.y
      have n10 : wr.cell? ⟨Y, 10, none⟩ = some (.string oS) := nd_cell HS.out.y
      have n11 : wr.cell? ⟨Y, 11, none⟩ = some (.int .i64 1) := nd_cell HS.out.y
      go_wp2_with fail
      refine (allowed2 _).mono ?_
      rintro e w1 ⟨rfl, hb1⟩
      have X1 := (hb1.block wr.heap.size (by simp)).trans (hp_new (w := wr) (o := .cells #[.int .i64 2, .string xS, .string oS, .int .i64 1] 70) rfl)
      have HS1 := Lib.hid (HS.out.go ((box1 wr _ _).trans (hb1.mono (by simp))))
      have hX : wr.heap.size < w1.heap.size := by have := hb1.size; simp at this; omega
      generalize hXe : wr.heap.size = X at *
      have HXB : Hid (B < X ∧ L < X ∧ D < X ∧ Y < X) := Lib.hid (by have := HS.out.lt; omega)
      have hh1 := hb1
      clear hb1 hh1 hlt n8 n9 n10 n11
      obtain ⟨m0, m1, m2, m3⟩ := cells4 X1
      have cB := cell_of_row w1 B 0 _ _ _ HS1.out.t
      go_wp2_with fail
      refine (above_ex _ _ Y _ (by omega) HS1.out.y).mono ?_
      rintro e w2 ⟨rfl, hb2⟩
      have X2 := (hb2.block X hX).trans X1
      have HS2 := Lib.hid (HS1.out.go hb2)
      have hX2 : X < w2.heap.size := by have := hb2.size; omega
      clear hb2 HS1 X1 m0 m1 m2 m3 cB hX
      obtain ⟨m0, m1, m2, m3⟩ := cells4 X2
      obtain ⟨d0, d1, d2, d3⟩ := cells4 (show w2.heap[D]? = some (.cells #[.int .i64 1, .int .i64 2, .int .i64 0, .int .i64 0] 3 (0, 0)) from HS2.out.d)
      have cB := cell_of_row w2 B 0 _ _ _ HS2.out.t
      obtain ⟨l0, l1, l2, l3⟩ := cells4 (show w2.heap[L]? = some (.cells #[.int .i64 1, .int .i64 0, .int .i64 0, .int .i64 0] 3 (0, 0)) from HS2.out.l)
      have fd := fun i => frz_of HS2.out.d i
      have fl := fun i => frz_of HS2.out.l i
      go_wp2_with fail
      obtain ⟨W3, hW3⟩ : ∃ W3, w2.setCell ⟨D, 2, none⟩ (.int .i64 3) = W3 := ⟨_, rfl⟩
      have HS3 : Hid (ChS w W3 B L D Y 2 3) := Lib.hid (hW3 ▸ HS2.out.setD (by rfl))
      have X3 : W3.heap[X]? = some (.cells #[.int .i64 2, .string xS, .string oS, .int .i64 1] 70 (0, 0)) := hW3 ▸ (set_other (by have := HXB.out; omega)).trans X2
      have hX3 : X < W3.heap.size := lt_heap X3
      rw [hW3]
      clear hW3 X2 HS2 hX2 m0 m1 m2 m3 d0 d1 d2 d3 l0 l1 l2 l3 cB fd fl
      obtain ⟨m0, m1, m2, m3⟩ := cells4 X3
      obtain ⟨d0, d1, d2, d3⟩ := cells4 (show W3.heap[D]? = some (.cells #[.int .i64 1, .int .i64 2, .int .i64 3, .int .i64 0] 3 (0, 0)) from HS3.out.d)
      have cB : W3.cell? ⟨B, 0, none⟩ = some (.slice (some ⟨Y, 0, none⟩) 4 4) := cell_of_row W3 B 0 _ _ _ HS3.out.t
      obtain ⟨l0, l1, l2, l3⟩ := cells4 (show W3.heap[L]? = some (.cells #[.int .i64 1, .int .i64 0, .int .i64 0, .int .i64 0] 3 (0, 0)) from HS3.out.l)
      clear m0 m1 m2 m3 d0 d1 d2 d3 l0 l1 l2 l3 cB
      refine wp_region_drawn (by kernel_rfl) 21 112 [85, 86, 87, 88, 89, 90, 91, 92, 93, 94, 95, 96, 97, 98, 99, 100, 101, 102, 103, 104, 105] (ck2 B L D X Y) rfl (by kernel_rfl) (ck2m _ _ _ _ _) ?_ ?_
      · intro i o hi ho ys W hys hb hdep
        obtain ⟨y0, y1, y2, y3, y4, y5, y6, y7, y8, y9, y10, y11, y12, y13, y14, y15, y16, y17, y18, y19, y20, rfl⟩ := list21 hys
        have hi' : i = 0 ∨ i = 1 ∨ i = 2 ∨ i = 3 ∨ i = 4 ∨ i = 5 ∨ i = 6 ∨ i = 7 ∨ i = 8 ∨ i = 9 ∨ i = 10 ∨ i = 11 ∨ i = 12 ∨ i = 13 ∨ i = 14 ∨ i = 15 ∨ i = 16 ∨ i = 17 ∨ i = 18 ∨ i = 19 ∨ i = 20 := by omega
        simp only [setM, List.setIfInBounds_toArray, List.set_cons_zero, List.set_cons_succ]
        rcases hi' with rfl | rfl | rfl | rfl | rfl | rfl | rfl | rfl | rfl | rfl | rfl | rfl | rfl | rfl | rfl | rfl | rfl | rfl | rfl | rfl | rfl
        · cases ho
          have cB : W.cell? ⟨B, 0, none⟩ = some (.slice (some ⟨Y, 0, none⟩) 4 4) := cell_of_row W B 0 _ _ _ (HS3.out.go hb).t
          go_wp2
          exact ⟨rfl, _, rfl, Below.refl _ _, rfl⟩
        · cases ho
          go_wp2
          exact ⟨rfl, _, rfl, Below.refl _ _, rfl⟩
        · cases ho
          go_wp2
          exact ⟨rfl, _, rfl, Below.refl _ _, rfl⟩
        · cases ho
          go_wp2
          exact ⟨rfl, _, rfl, Below.refl _ _, rfl⟩
        · cases ho
          obtain rfl : y3 = .pointer (some ⟨X, 3, none⟩) := hdep 3 (by omega) (by kernel_rfl)
          obtain ⟨p0, p1, p2, p3⟩ := cells4 ((hb.block X hX3).trans X3)
          go_wp2
          exact ⟨rfl, _, rfl, Below.refl _ _, rfl⟩
        · cases ho
          obtain rfl : y2 = .slice (some ⟨L, 0, none⟩) 4 4 := hdep 2 (by omega) (by kernel_rfl)
          obtain rfl : y4 = .int .i64 1 := hdep 4 (by omega) (by kernel_rfl)
          go_wp2
          exact ⟨rfl, _, rfl, Below.refl _ _, rfl⟩
        · cases ho
          obtain rfl : y5 = .pointer (some ⟨L, 1, none⟩) := hdep 5 (by omega) (by kernel_rfl)
          obtain ⟨q0, q1, q2, q3⟩ := cells4 (show W.heap[L]? = some (.cells #[.int .i64 1, .int .i64 0, .int .i64 0, .int .i64 0] 3 (0, 0)) from (HS3.out.go hb).l)
          go_wp2
          exact ⟨rfl, _, rfl, Below.refl _ _, rfl⟩
        · cases ho
          obtain rfl : y0 = .agg #[.slice (some ⟨Y, 0, none⟩) 4 4] := hdep 0 (by omega) (by kernel_rfl)
          obtain rfl : y1 = .int .i64 2 := hdep 1 (by omega) (by kernel_rfl)
          obtain rfl : y6 = .int .i64 0 := hdep 6 (by omega) (by kernel_rfl)
          go_wp2_with fail
          refine (placed_ex 2 0 Y _ (by omega) (HS3.out.go hb).y).mono ?_
          rintro e w1 ⟨rfl, hb1⟩
          go_wp2
          exact ⟨rfl, _, rfl, hb1, rfl⟩
        · cases ho
          obtain rfl : y7 = .bool true := hdep 7 (by omega) (by kernel_rfl)
          go_wp2
          exact ⟨rfl, _, rfl, Below.refl _ _, rfl⟩
        · cases ho
          obtain rfl : y8 = .bool false := hdep 8 (by omega) (by kernel_rfl)
          go_wp2
          exact ⟨rfl, _, rfl, Below.refl _ _, rfl⟩
        · cases ho
          obtain rfl : y9 = .bool false := hdep 9 (by omega) (by kernel_rfl)
          go_wp2
          exact ⟨rfl, _, rfl, Below.refl _ _, rfl⟩
        · cases ho
          obtain rfl : y10 = .pointer (some ⟨X, 0, none⟩) := hdep 10 (by omega) (by kernel_rfl)
          obtain rfl : y9 = .bool false := hdep 9 (by omega) (by kernel_rfl)
          obtain ⟨p0, p1, p2, p3⟩ := cells4 ((hb.block X hX3).trans X3)
          go_wp2
          exact ⟨rfl, _, rfl, Below.refl _ _, rfl⟩
        · cases ho
          obtain rfl : y11 = .int .i64 2 := hdep 11 (by omega) (by kernel_rfl)
          obtain rfl : y9 = .bool false := hdep 9 (by omega) (by kernel_rfl)
          go_wp2
          exact ⟨rfl, _, rfl, Below.refl _ _, rfl⟩
        · cases ho
          obtain rfl : y12 = .bool false := hdep 12 (by omega) (by kernel_rfl)
          obtain rfl : y9 = .bool false := hdep 9 (by omega) (by kernel_rfl)
          go_wp2
          exact ⟨rfl, _, rfl, Below.refl _ _, rfl⟩
        · cases ho
          obtain rfl : y13 = .bool false := hdep 13 (by omega) (by kernel_rfl)
          go_wp2
          exact ⟨rfl, _, rfl, Below.refl _ _, trivial⟩
        · cases ho
          obtain rfl : y13 = .bool false := hdep 13 (by omega) (by kernel_rfl)
          go_wp2
          exact ⟨rfl, _, rfl, Below.refl _ _, trivial⟩
        · cases ho
          obtain rfl : y13 = .bool false := hdep 13 (by omega) (by kernel_rfl)
          go_wp2
          exact ⟨rfl, _, rfl, Below.refl _ _, trivial⟩
        · cases ho
          obtain rfl : y13 = .bool false := hdep 13 (by omega) (by kernel_rfl)
          go_wp2
          exact ⟨rfl, _, rfl, Below.refl _ _, trivial⟩
        · cases ho
          obtain rfl : y13 = .bool false := hdep 13 (by omega) (by kernel_rfl)
          go_wp2
          exact ⟨rfl, _, rfl, Below.refl _ _, trivial⟩
        · cases ho
          obtain rfl : y13 = .bool false := hdep 13 (by omega) (by kernel_rfl)
          obtain rfl : y9 = .bool false := hdep 9 (by omega) (by kernel_rfl)
          go_wp2
          exact ⟨rfl, _, rfl, Below.refl _ _, rfl⟩
        · cases ho
          obtain rfl : y9 = .bool false := hdep 9 (by omega) (by kernel_rfl)
          obtain rfl : y19 = .bool false := hdep 19 (by omega) (by kernel_rfl)
          go_wp2
          exact ⟨rfl, _, rfl, Below.refl _ _, rfl⟩
      · intro ys W hys hb hall
        obtain ⟨y0, y1, y2, y3, y4, y5, y6, y7, y8, y9, y10, y11, y12, y13, y14, y15, y16, y17, y18, y19, y20, rfl⟩ := list21 hys
        simp only [setM, List.setIfInBounds_toArray, List.set_cons_zero, List.set_cons_succ]
        obtain rfl : y20 = .bool false := hall 20 (by omega)
        clear hall
        simp only [List.drop_succ_cons, List.drop_zero]
        have HS4 := Lib.hid (HS3.out.go hb)
        have X4 := (hb.block X hX3).trans X3
        have hX4 : X < W.heap.size := lt_heap X4
        have fl := fun i => frz_of HS4.out.l i
        obtain ⟨p0, p1, p2, p3⟩ := cells4 X4
        obtain ⟨q0, q1, q2, q3⟩ := cells4 (show W.heap[L]? = some (.cells #[.int .i64 1, .int .i64 0, .int .i64 0, .int .i64 0] 3 (0, 0)) from HS4.out.l)
        clear hb HS3 X3 hX3 X4
        generalize W = W4 at *
        go_wp2
        go_roundw
        case rel => exact ⟨3, by omega, rfl, Lib.hid (HS4.out.setL (by rfl))⟩
        case measure => simp [intOf]
    · have hlt := HS.out.lt
      have n12 : wr.cell? ⟨Y, 12, none⟩ = some (.int .i64 3) := nd_cell HS.out.y
      have n13 : wr.cell? ⟨Y, 13, none⟩ = some (.string eS) := nd_cell HS.out.y
      have n14 : wr.cell? ⟨Y, 14, none⟩ = some (.string wS) := nd_cell HS.out.y
      have n15 : wr.cell? ⟨Y, 15, none⟩ = some (.int .i64 1) := nd_cell HS.out.y
      go_wp2_with fail
      refine (allowed3 _).mono ?_
      rintro e w1 ⟨rfl, hb1⟩
      have X1 := (hb1.block wr.heap.size (by simp)).trans (hp_new (w := wr) (o := .cells #[.int .i64 3, .string eS, .string wS, .int .i64 1] 70) rfl)
      have HS1 := Lib.hid (HS.out.go ((box1 wr _ _).trans (hb1.mono (by simp))))
      have hX : wr.heap.size < w1.heap.size := by have := hb1.size; simp at this; omega
      generalize hXe : wr.heap.size = X at *
      have HXB : Hid (B < X ∧ L < X ∧ D < X ∧ Y < X) := Lib.hid (by have := HS.out.lt; omega)
      have hh1 := hb1
      clear hb1 hh1 hlt n12 n13 n14 n15
      obtain ⟨m0, m1, m2, m3⟩ := cells4 X1
      have cB := cell_of_row w1 B 0 _ _ _ HS1.out.t
      go_wp2_with fail
      refine (above_ex _ _ Y _ (by omega) HS1.out.y).mono ?_
      rintro e w2 ⟨rfl, hb2⟩
      have X2 := (hb2.block X hX).trans X1
      have HS2 := Lib.hid (HS1.out.go hb2)
      have hX2 : X < w2.heap.size := by have := hb2.size; omega
      clear hb2 HS1 X1 m0 m1 m2 m3 cB hX
      obtain ⟨m0, m1, m2, m3⟩ := cells4 X2
      obtain ⟨d0, d1, d2, d3⟩ := cells4 (show w2.heap[D]? = some (.cells #[.int .i64 1, .int .i64 2, .int .i64 3, .int .i64 0] 3 (0, 0)) from HS2.out.d)
      have cB := cell_of_row w2 B 0 _ _ _ HS2.out.t
      obtain ⟨l0, l1, l2, l3⟩ := cells4 (show w2.heap[L]? = some (.cells #[.int .i64 1, .int .i64 2, .int .i64 0, .int .i64 0] 3 (0, 0)) from HS2.out.l)
      have fd := fun i => frz_of HS2.out.d i
      have fl := fun i => frz_of HS2.out.l i
      go_wp2_with fail
      obtain ⟨W3, hW3⟩ : ∃ W3, w2.setCell ⟨D, 3, none⟩ (.int .i64 3) = W3 := ⟨_, rfl⟩
      have HS3 : Hid (ChS w W3 B L D Y 3 4) := Lib.hid (hW3 ▸ HS2.out.setD (by rfl))
      have X3 : W3.heap[X]? = some (.cells #[.int .i64 3, .string eS, .string wS, .int .i64 1] 70 (0, 0)) := hW3 ▸ (set_other (by have := HXB.out; omega)).trans X2
      have hX3 : X < W3.heap.size := lt_heap X3
      rw [hW3]
      clear hW3 X2 HS2 hX2 m0 m1 m2 m3 d0 d1 d2 d3 l0 l1 l2 l3 cB fd fl
      obtain ⟨m0, m1, m2, m3⟩ := cells4 X3
      obtain ⟨d0, d1, d2, d3⟩ := cells4 (show W3.heap[D]? = some (.cells #[.int .i64 1, .int .i64 2, .int .i64 3, .int .i64 3] 3 (0, 0)) from HS3.out.d)
      have cB : W3.cell? ⟨B, 0, none⟩ = some (.slice (some ⟨Y, 0, none⟩) 4 4) := cell_of_row W3 B 0 _ _ _ HS3.out.t
      obtain ⟨l0, l1, l2, l3⟩ := cells4 (show W3.heap[L]? = some (.cells #[.int .i64 1, .int .i64 2, .int .i64 0, .int .i64 0] 3 (0, 0)) from HS3.out.l)
      clear m0 m1 m2 m3 d0 d1 d2 d3 l0 l1 l2 l3 cB
      refine wp_region_drawn (by kernel_rfl) 21 112 [85, 86, 87, 88, 89, 90, 91, 92, 93, 94, 95, 96, 97, 98, 99, 100, 101, 102, 103, 104, 105] (ck3 B L D X Y) rfl (by kernel_rfl) (ck3m _ _ _ _ _) ?_ ?_
      · intro i o hi ho ys W hys hb hdep
        obtain ⟨y0, y1, y2, y3, y4, y5, y6, y7, y8, y9, y10, y11, y12, y13, y14, y15, y16, y17, y18, y19, y20, rfl⟩ := list21 hys
        have hi' : i = 0 ∨ i = 1 ∨ i = 2 ∨ i = 3 ∨ i = 4 ∨ i = 5 ∨ i = 6 ∨ i = 7 ∨ i = 8 ∨ i = 9 ∨ i = 10 ∨ i = 11 ∨ i = 12 ∨ i = 13 ∨ i = 14 ∨ i = 15 ∨ i = 16 ∨ i = 17 ∨ i = 18 ∨ i = 19 ∨ i = 20 := by omega
        simp only [setM, List.setIfInBounds_toArray, List.set_cons_zero, List.set_cons_succ]
        rcases hi' with rfl | rfl | rfl | rfl | rfl | rfl | rfl | rfl | rfl | rfl | rfl | rfl | rfl | rfl | rfl | rfl | rfl | rfl | rfl | rfl | rfl
        · cases ho
          have cB : W.cell? ⟨B, 0, none⟩ = some (.slice (some ⟨Y, 0, none⟩) 4 4) := cell_of_row W B 0 _ _ _ (HS3.out.go hb).t
          go_wp2
          exact ⟨rfl, _, rfl, Below.refl _ _, rfl⟩
        · cases ho
          go_wp2
          exact ⟨rfl, _, rfl, Below.refl _ _, rfl⟩
        · cases ho
          go_wp2
          exact ⟨rfl, _, rfl, Below.refl _ _, rfl⟩
        · cases ho
          go_wp2
          exact ⟨rfl, _, rfl, Below.refl _ _, rfl⟩
        · cases ho
          obtain rfl : y3 = .pointer (some ⟨X, 3, none⟩) := hdep 3 (by omega) (by kernel_rfl)
          obtain ⟨p0, p1, p2, p3⟩ := cells4 ((hb.block X hX3).trans X3)
          go_wp2
          exact ⟨rfl, _, rfl, Below.refl _ _, rfl⟩
        · cases ho
          obtain rfl : y2 = .slice (some ⟨L, 0, none⟩) 4 4 := hdep 2 (by omega) (by kernel_rfl)
          obtain rfl : y4 = .int .i64 1 := hdep 4 (by omega) (by kernel_rfl)
          go_wp2
          exact ⟨rfl, _, rfl, Below.refl _ _, rfl⟩
        · cases ho
          obtain rfl : y5 = .pointer (some ⟨L, 1, none⟩) := hdep 5 (by omega) (by kernel_rfl)
          obtain ⟨q0, q1, q2, q3⟩ := cells4 (show W.heap[L]? = some (.cells #[.int .i64 1, .int .i64 2, .int .i64 0, .int .i64 0] 3 (0, 0)) from (HS3.out.go hb).l)
          go_wp2
          exact ⟨rfl, _, rfl, Below.refl _ _, rfl⟩
        · cases ho
          obtain rfl : y0 = .agg #[.slice (some ⟨Y, 0, none⟩) 4 4] := hdep 0 (by omega) (by kernel_rfl)
          obtain rfl : y1 = .int .i64 3 := hdep 1 (by omega) (by kernel_rfl)
          obtain rfl : y6 = .int .i64 2 := hdep 6 (by omega) (by kernel_rfl)
          go_wp2_with fail
          refine (placed_ex 3 2 Y _ (by omega) (HS3.out.go hb).y).mono ?_
          rintro e w1 ⟨rfl, hb1⟩
          go_wp2
          exact ⟨rfl, _, rfl, hb1, rfl⟩
        · cases ho
          obtain rfl : y7 = .bool true := hdep 7 (by omega) (by kernel_rfl)
          go_wp2
          exact ⟨rfl, _, rfl, Below.refl _ _, rfl⟩
        · cases ho
          obtain rfl : y8 = .bool false := hdep 8 (by omega) (by kernel_rfl)
          go_wp2
          exact ⟨rfl, _, rfl, Below.refl _ _, rfl⟩
        · cases ho
          obtain rfl : y9 = .bool false := hdep 9 (by omega) (by kernel_rfl)
          go_wp2
          exact ⟨rfl, _, rfl, Below.refl _ _, rfl⟩
        · cases ho
          obtain rfl : y10 = .pointer (some ⟨X, 0, none⟩) := hdep 10 (by omega) (by kernel_rfl)
          obtain rfl : y9 = .bool false := hdep 9 (by omega) (by kernel_rfl)
          obtain ⟨p0, p1, p2, p3⟩ := cells4 ((hb.block X hX3).trans X3)
          go_wp2
          exact ⟨rfl, _, rfl, Below.refl _ _, rfl⟩
        · cases ho
          obtain rfl : y11 = .int .i64 3 := hdep 11 (by omega) (by kernel_rfl)
          obtain rfl : y9 = .bool false := hdep 9 (by omega) (by kernel_rfl)
          go_wp2
          exact ⟨rfl, _, rfl, Below.refl _ _, rfl⟩
        · cases ho
          obtain rfl : y12 = .bool true := hdep 12 (by omega) (by kernel_rfl)
          obtain rfl : y9 = .bool false := hdep 9 (by omega) (by kernel_rfl)
          go_wp2
          exact ⟨rfl, _, rfl, Below.refl _ _, rfl⟩
        · cases ho
          obtain rfl : y13 = .bool true := hdep 13 (by omega) (by kernel_rfl)
          go_wp2
          exact ⟨rfl, _, rfl, Below.refl _ _, rfl⟩
        · cases ho
          obtain rfl : y13 = .bool true := hdep 13 (by omega) (by kernel_rfl)
          go_wp2
          exact ⟨rfl, _, rfl, Below.refl _ _, rfl⟩
        · cases ho
          obtain rfl : y14 = .slice (some ⟨D, 0, none⟩) 4 4 := hdep 14 (by omega) (by kernel_rfl)
          obtain rfl : y15 = .int .i64 3 := hdep 15 (by omega) (by kernel_rfl)
          obtain rfl : y13 = .bool true := hdep 13 (by omega) (by kernel_rfl)
          go_wp2
          exact ⟨rfl, _, rfl, Below.refl _ _, rfl⟩
        · cases ho
          obtain rfl : y16 = .pointer (some ⟨D, 3, none⟩) := hdep 16 (by omega) (by kernel_rfl)
          obtain rfl : y13 = .bool true := hdep 13 (by omega) (by kernel_rfl)
          obtain ⟨q0, q1, q2, q3⟩ := cells4 (show W.heap[D]? = some (.cells #[.int .i64 1, .int .i64 2, .int .i64 3, .int .i64 3] 3 (0, 0)) from (HS3.out.go hb).d)
          go_wp2
          exact ⟨rfl, _, rfl, Below.refl _ _, rfl⟩
        · cases ho
          obtain rfl : y17 = .int .i64 3 := hdep 17 (by omega) (by kernel_rfl)
          obtain rfl : y13 = .bool true := hdep 13 (by omega) (by kernel_rfl)
          go_wp2
          exact ⟨rfl, _, rfl, Below.refl _ _, rfl⟩
        · cases ho
          obtain rfl : y13 = .bool true := hdep 13 (by omega) (by kernel_rfl)
          obtain rfl : y18 = .bool false := hdep 18 (by omega) (by kernel_rfl)
          obtain rfl : y9 = .bool false := hdep 9 (by omega) (by kernel_rfl)
          go_wp2
          exact ⟨rfl, _, rfl, Below.refl _ _, rfl⟩
        · cases ho
          obtain rfl : y9 = .bool false := hdep 9 (by omega) (by kernel_rfl)
          obtain rfl : y19 = .bool false := hdep 19 (by omega) (by kernel_rfl)
          go_wp2
          exact ⟨rfl, _, rfl, Below.refl _ _, rfl⟩
      · intro ys W hys hb hall
        obtain ⟨y0, y1, y2, y3, y4, y5, y6, y7, y8, y9, y10, y11, y12, y13, y14, y15, y16, y17, y18, y19, y20, rfl⟩ := list21 hys
        simp only [setM, List.setIfInBounds_toArray, List.set_cons_zero, List.set_cons_succ]
        obtain rfl : y20 = .bool false := hall 20 (by omega)
        clear hall
        simp only [List.drop_succ_cons, List.drop_zero]
        have HS4 := Lib.hid (HS3.out.go hb)
        have X4 := (hb.block X hX3).trans X3
        have hX4 : X < W.heap.size := lt_heap X4
        have fl := fun i => frz_of HS4.out.l i
        obtain ⟨p0, p1, p2, p3⟩ := cells4 X4
        obtain ⟨q0, q1, q2, q3⟩ := cells4 (show W.heap[L]? = some (.cells #[.int .i64 1, .int .i64 2, .int .i64 0, .int .i64 0] 3 (0, 0)) from HS4.out.l)
        clear hb HS3 X3 hX3 X4
        generalize W = W4 at *
        go_wp2
        go_roundw
        case rel => exact ⟨4, by omega, rfl, Lib.hid (HS4.out.setL (by rfl))⟩
        case measure => simp [intOf]
    · have hb := HS.out.b
      go_wp2
      go_ret
      exact ⟨rfl, hb⟩
end Go.Proofs.YtajkdllakleakaaGreatDoor
