/- package tree: placed at the example's tree (printed by gen_pla.py). -/
import Derived.Test.YtajkdllakleakaaGreatDoorM3
import Derived.Test.YtajkdllakleakaaGreatDoorDr
namespace Go.Proofs.YtajkdllakleakaaGreatDoor
open Go.RowKit
set_option linter.unusedVariables false
set_option linter.unusedSimpArgs false

def nzblk : Obj := .cells #[.int .i64 0, .string eS, .string eS, .int .i64 0] 70
/-- A new box for a node. -/
def NewN (B : Nat) (v : Value) (w : World) : Prop := ∃ b, v = .pointer (some ⟨b, 0, none⟩) ∧ w.heap[b]? = some nzblk ∧ B ≤ b
/-- A box that holds a node. -/
def NodN (B : Nat) (cs : Array Value) (v : Value) (w : World) : Prop := ∃ b, v = .pointer (some ⟨b, 0, none⟩) ∧ w.heap[b]? = some (.cells cs 70 (0, 0)) ∧ B ≤ b
theorem NewN.mono {B : Nat} {v : Value} {w w' : World} (hb : Below w.heap.size w w') (h : NewN B v w) : NewN B v w' := by
  obtain ⟨b, e, h1, h2⟩ := h
  exact ⟨b, e, (hb.block b (Array.getElem?_eq_some_iff.1 h1).1).trans h1, h2⟩
theorem NodN.mono {B : Nat} {cs : Array Value} {v : Value} {w w' : World} (hb : Below w.heap.size w w') (h : NodN B cs v w) : NodN B cs v w' := by
  obtain ⟨b, e, h1, h2⟩ := h
  exact ⟨b, e, (hb.block b (Array.getElem?_eq_some_iff.1 h1).1).trans h1, h2⟩
theorem info_nd4 : (Tryz.prog.info? 70).map (fun i => i.size) = some 4 := by kernel_rfl
theorem bel_row4 {B g : Nat} {a W : World} (h : Below B a W) (hg : B ≤ g) (cs : Array Value) : Below B a (W.setRow g cs) :=
  h.trans ⟨rfl, rfl, rfl, by simp, fun k hk => setRow_other _ _ _ _ (by omega)⟩
theorem wpList_putN {ops : Array Oper} {rest : List Oper} {o : Oper} {a : Act} {w : World} {Q : Exit → Act → World → Prop} (hgd : o.guard = none) (x y : Operand) (ho : o.op = .store 70 x y)
    (hd : o.dst = none) (b : Nat) (k : Int) (nm tx : ByteArray) (up : Int) (hx : a.eval x = .pointer (some ⟨b, 0, none⟩)) (hy : a.eval y = .agg #[.int .i64 k, .string nm, .string tx, .int .i64 up]) (hz : w.heap[b]? = some nzblk) (h : wpList Tryz.prog ops Q rest a (w.setRow b #[.int .i64 k, .string nm, .string tx, .int .i64 up])) : wpList Tryz.prog ops Q (o :: rest) a w := by
  have hp : a.put o.dst undef = a := by rw [hd]; rfl
  refine wpList_store_row hgd 70 x y ho b #[.int .i64 k, .string nm, .string tx, .int .i64 up] hx hy 70 _ hz info_nd4 rfl ?_ (by rw [hp]; exact h)
  have e1 : ∀ i, (Value.int .i64 i).oneCell' = true := fun _ => rfl
  have e2 : ∀ s, (Value.string s).oneCell' = true := fun _ => rfl
  simp [e1, e2]
theorem cells4 {W : World} {X : Nat} {t : TypeId} {a0 a1 a2 a3 : Value} (h : W.heap[X]? = some (.cells #[a0, a1, a2, a3] t (0, 0))) : W.cell? ⟨X, 0, none⟩ = some a0 ∧ W.cell? ⟨X, 1, none⟩ = some a1 ∧ W.cell? ⟨X, 2, none⟩ = some a2 ∧ W.cell? ⟨X, 3, none⟩ = some a3 :=
  ⟨cell_of_row W X 0 _ _ _ h, cell_of_row W X 1 _ _ _ h, cell_of_row W X 2 _ _ _ h, cell_of_row W X 3 _ _ _ h⟩
theorem list17 {l : List Value} (h : l.length = 17) : ∃ y0 y1 y2 y3 y4 y5 y6 y7 y8 y9 y10 y11 y12 y13 y14 y15 y16, l = [y0, y1, y2, y3, y4, y5, y6, y7, y8, y9, y10, y11, y12, y13, y14, y15, y16] := by
  match l, h with
  | y0 :: y1 :: y2 :: y3 :: y4 :: y5 :: y6 :: y7 :: y8 :: y9 :: y10 :: y11 :: y12 :: y13 :: y14 :: y15 :: y16 :: [], _ => exact ⟨y0, y1, y2, y3, y4, y5, y6, y7, y8, y9, y10, y11, y12, y13, y14, y15, y16, rfl⟩
def pl1 (B Y : Nat) : Bool → Nat → Value → World → Prop
  | _, 0 => fun v _ => v = .pointer (some ⟨B, 0, none⟩)
  | _, 1 => fun v _ => v = .slice (some ⟨Y, 0, none⟩) 4 4
  | _, 2 => fun v _ => v = .int .i64 1
  | _, 3 => fun v _ => v = .pointer (some ⟨Y, 4, none⟩)
  | _, 4 => fun v _ => v = .agg #[.int .i64 1, .string aS, .string eS, .int .i64 0]
  | _, 5 => fun v _ => v = .pointer (some ⟨B, 0, none⟩)
  | _, 6 => fun v _ => v = .slice (some ⟨Y, 0, none⟩) 4 4
  | _, 7 => fun v _ => v = .pointer (some ⟨B, 0, none⟩)
  | _, 8 => fun v _ => v = .slice (some ⟨Y, 0, none⟩) 4 4
  | _, 9 => fun v _ => v = .int .i64 1
  | _, 10 => fun v _ => v = .pointer (some ⟨Y, 4, none⟩)
  | _, 11 => fun v _ => v = .pointer (some ⟨Y, 7, none⟩)
  | _, 12 => fun v _ => v = .int .i64 0
  | _, 13 => fun v _ => v = .pointer (some ⟨Y, 0, none⟩)
  | _, 14 => fun v _ => v = .pointer (some ⟨Y, 0, none⟩)
  | _, 15 => fun v _ => v = .int .i64 0
  | false, 16 => NewN (B + 1)
  | true, 16 => NodN (B + 1) #[.int .i64 1, .string aS, .string eS, .int .i64 0]
  | _, _ => fun _ _ => True
theorem pl1m (B Y : Nat) (s : Bool) (jx : Nat) (v : Value) (w w' : World) (hb : Below w.heap.size w w') (h : pl1 B Y s jx v w) : pl1 B Y s jx v w' := by
  unfold pl1 at h ⊢
  split at h
  all_goals first | exact h | exact NewN.mono hb h | exact NodN.mono hb h | trivial
set_option maxRecDepth 100000 in
set_option maxHeartbeats 4000000 in
theorem placed1 (Y : Nat) (w : World) (hy : w.heap[Y]? = some (.cells ndC 70 (0, 0))) : Calls Tryz.prog 61 #[tr1 Y, .int .i64 1, .int .i64 0] w (AllP w) := by
  have hYl := (Array.getElem?_eq_some_iff.1 hy).1
  have HB0 := Lib.hid (box1 w 73 #[.slice (some ⟨Y, 0, none⟩) 4 4])
  have HY := Lib.hid (hp_past (o := .cells #[.slice (some ⟨Y, 0, none⟩) 4 4] 73) hy)
  have C0 : Hid ((w.alloc (.cells #[.slice (some ⟨Y, 0, none⟩) 4 4] 73)).cell? ⟨w.heap.size, 0, none⟩ = some (.slice (some ⟨Y, 0, none⟩) 4 4)) := Lib.hid (cell_of_row _ _ 0 _ _ _ (hp_new rfl))
  have HBl : Hid (w.heap.size < (w.alloc (.cells #[.slice (some ⟨Y, 0, none⟩) 4 4] 73)).heap.size) := Lib.hid (by simp)
  have HYl : Hid (Y < (w.alloc (.cells #[.slice (some ⟨Y, 0, none⟩) 4 4] 73)).heap.size) := Lib.hid (by simp; omega)
  have HSz : Hid ((w.alloc (.cells #[.slice (some ⟨Y, 0, none⟩) 4 4] 73)).heap.size = w.heap.size + 1) := Lib.hid (by simp)
  clear hy hYl
  unfold tr1
  go_enter Tryz.func61, Tryz.ntmps61
  go_wp2_with fail
  generalize w.alloc (.cells #[.slice (some ⟨Y, 0, none⟩) 4 4] 73) = W0 at *
  generalize hBe : w.heap.size = B at *
  refine wp_region_drawn2 (by kernel_rfl) 17 75 [10, 11, 12, 13, 14, 15, 16, 17, 18, 19, 20, 21, 22, 23, 24, 25, 7] [5, 6, 7, 8, 9, 10, 11, 12, 13, 14, 15] (pl1 B Y) rfl (by kernel_rfl) (pl1m _ _) ?_ ?_ ?_ ?_
  · intro i o hi ho ys W hys hb hdep
    obtain ⟨y0, y1, y2, y3, y4, y5, y6, y7, y8, y9, y10, y11, y12, y13, y14, y15, y16, rfl⟩ := list17 hys
    have hi' : i = 0 ∨ i = 1 ∨ i = 2 ∨ i = 3 ∨ i = 4 ∨ i = 5 ∨ i = 6 ∨ i = 7 ∨ i = 8 ∨ i = 9 ∨ i = 10 ∨ i = 11 ∨ i = 12 ∨ i = 13 ∨ i = 14 ∨ i = 15 ∨ i = 16 := by omega
    simp only [setM, List.setIfInBounds_toArray, List.set_cons_zero, List.set_cons_succ]
    rcases hi' with rfl | rfl | rfl | rfl | rfl | rfl | rfl | rfl | rfl | rfl | rfl | rfl | rfl | rfl | rfl | rfl | rfl
    · cases ho
      go_wp2
      exact ⟨rfl, _, rfl, Below.refl _ _, rfl⟩
    · cases ho
      obtain rfl : y0 = .pointer (some ⟨B, 0, none⟩) := hdep 0 (by omega) (by kernel_rfl)
      have cB := (hb.cell (p := ⟨B, 0, none⟩) HBl.out).trans C0.out
      go_wp2
      exact ⟨rfl, _, rfl, Below.refl _ _, rfl⟩
    · cases ho
      go_wp2
      exact ⟨rfl, _, rfl, Below.refl _ _, rfl⟩
    · cases ho
      obtain rfl : y1 = .slice (some ⟨Y, 0, none⟩) 4 4 := hdep 1 (by omega) (by kernel_rfl)
      obtain rfl : y2 = .int .i64 1 := hdep 2 (by omega) (by kernel_rfl)
      go_wp2
      exact ⟨rfl, _, rfl, Below.refl _ _, rfl⟩
    · cases ho
      obtain rfl : y3 = .pointer (some ⟨Y, 4, none⟩) := hdep 3 (by omega) (by kernel_rfl)
      have hyW := (hb.block Y HYl.out).trans HY.out
      have n4 : W.cell? ⟨Y, 4, none⟩ = some (.int .i64 1) := nd_cell hyW
      have n5 : W.cell? ⟨Y, 5, none⟩ = some (.string aS) := nd_cell hyW
      have n6 : W.cell? ⟨Y, 6, none⟩ = some (.string eS) := nd_cell hyW
      have n7 : W.cell? ⟨Y, 7, none⟩ = some (.int .i64 0) := nd_cell hyW
      go_wp2
      exact ⟨rfl, _, rfl, Below.refl _ _, rfl⟩
    · cases ho
      go_wp2
      exact ⟨rfl, _, rfl, Below.refl _ _, rfl⟩
    · cases ho
      obtain rfl : y5 = .pointer (some ⟨B, 0, none⟩) := hdep 5 (by omega) (by kernel_rfl)
      have cB := (hb.cell (p := ⟨B, 0, none⟩) HBl.out).trans C0.out
      go_wp2
      exact ⟨rfl, _, rfl, Below.refl _ _, rfl⟩
    · cases ho
      go_wp2
      exact ⟨rfl, _, rfl, Below.refl _ _, rfl⟩
    · cases ho
      obtain rfl : y7 = .pointer (some ⟨B, 0, none⟩) := hdep 7 (by omega) (by kernel_rfl)
      have cB := (hb.cell (p := ⟨B, 0, none⟩) HBl.out).trans C0.out
      go_wp2
      exact ⟨rfl, _, rfl, Below.refl _ _, rfl⟩
    · cases ho
      go_wp2
      exact ⟨rfl, _, rfl, Below.refl _ _, rfl⟩
    · cases ho
      obtain rfl : y8 = .slice (some ⟨Y, 0, none⟩) 4 4 := hdep 8 (by omega) (by kernel_rfl)
      obtain rfl : y9 = .int .i64 1 := hdep 9 (by omega) (by kernel_rfl)
      go_wp2
      exact ⟨rfl, _, rfl, Below.refl _ _, rfl⟩
    · cases ho
      obtain rfl : y10 = .pointer (some ⟨Y, 4, none⟩) := hdep 10 (by omega) (by kernel_rfl)
      go_wp2
      exact ⟨rfl, _, rfl, Below.refl _ _, rfl⟩
    · cases ho
      obtain rfl : y11 = .pointer (some ⟨Y, 7, none⟩) := hdep 11 (by omega) (by kernel_rfl)
      have hyW := (hb.block Y HYl.out).trans HY.out
      have n7 : W.cell? ⟨Y, 7, none⟩ = some (.int .i64 0) := nd_cell hyW
      go_wp2
      exact ⟨rfl, _, rfl, Below.refl _ _, rfl⟩
    · cases ho
      obtain rfl : y6 = .slice (some ⟨Y, 0, none⟩) 4 4 := hdep 6 (by omega) (by kernel_rfl)
      obtain rfl : y12 = .int .i64 0 := hdep 12 (by omega) (by kernel_rfl)
      go_wp2
      exact ⟨rfl, _, rfl, Below.refl _ _, rfl⟩
    · cases ho
      obtain rfl : y13 = .pointer (some ⟨Y, 0, none⟩) := hdep 13 (by omega) (by kernel_rfl)
      go_wp2
      exact ⟨rfl, _, rfl, Below.refl _ _, rfl⟩
    · cases ho
      obtain rfl : y14 = .pointer (some ⟨Y, 0, none⟩) := hdep 14 (by omega) (by kernel_rfl)
      have hyW := (hb.block Y HYl.out).trans HY.out
      have n0 : W.cell? ⟨Y, 0, none⟩ = some (.int .i64 0) := nd_cell hyW
      go_wp2
      exact ⟨rfl, _, rfl, Below.refl _ _, rfl⟩
    · cases ho
      go_wp2
      exact ⟨rfl, _, rfl, box1 _ _ _, _, rfl, hp_new rfl, by have := hb.size; have := HSz.out; omega⟩
  · intro i o hl hi ho ys W hys hb hdep
    obtain ⟨y0, y1, y2, y3, y4, y5, y6, y7, y8, y9, y10, y11, y12, y13, y14, y15, y16, rfl⟩ := list17 hys
    simp only [setM, List.setIfInBounds_toArray, List.set_cons_zero, List.set_cons_succ]
    have hi' : i = 5 ∨ i = 6 ∨ i = 7 ∨ i = 8 ∨ i = 9 ∨ i = 10 ∨ i = 11 ∨ i = 12 ∨ i = 13 ∨ i = 14 ∨ i = 15 := by simpa using hl
    rcases hi' with rfl | rfl | rfl | rfl | rfl | rfl | rfl | rfl | rfl | rfl | rfl
    · cases ho
      go_wp2
      exact ⟨rfl, _, rfl, Below.refl _ _, rfl⟩
    · cases ho
      obtain rfl : y5 = .pointer (some ⟨B, 0, none⟩) := hdep 5 (by omega) (by kernel_rfl)
      have cB := (hb.cell (p := ⟨B, 0, none⟩) HBl.out).trans C0.out
      go_wp2
      exact ⟨rfl, _, rfl, Below.refl _ _, rfl⟩
    · cases ho
      go_wp2
      exact ⟨rfl, _, rfl, Below.refl _ _, rfl⟩
    · cases ho
      obtain rfl : y7 = .pointer (some ⟨B, 0, none⟩) := hdep 7 (by omega) (by kernel_rfl)
      have cB := (hb.cell (p := ⟨B, 0, none⟩) HBl.out).trans C0.out
      go_wp2
      exact ⟨rfl, _, rfl, Below.refl _ _, rfl⟩
    · cases ho
      go_wp2
      exact ⟨rfl, _, rfl, Below.refl _ _, rfl⟩
    · cases ho
      obtain rfl : y8 = .slice (some ⟨Y, 0, none⟩) 4 4 := hdep 8 (by omega) (by kernel_rfl)
      obtain rfl : y9 = .int .i64 1 := hdep 9 (by omega) (by kernel_rfl)
      go_wp2
      exact ⟨rfl, _, rfl, Below.refl _ _, rfl⟩
    · cases ho
      obtain rfl : y10 = .pointer (some ⟨Y, 4, none⟩) := hdep 10 (by omega) (by kernel_rfl)
      go_wp2
      exact ⟨rfl, _, rfl, Below.refl _ _, rfl⟩
    · cases ho
      obtain rfl : y11 = .pointer (some ⟨Y, 7, none⟩) := hdep 11 (by omega) (by kernel_rfl)
      have hyW := (hb.block Y HYl.out).trans HY.out
      have n7 : W.cell? ⟨Y, 7, none⟩ = some (.int .i64 0) := nd_cell hyW
      go_wp2
      exact ⟨rfl, _, rfl, Below.refl _ _, rfl⟩
    · cases ho
      obtain rfl : y6 = .slice (some ⟨Y, 0, none⟩) 4 4 := hdep 6 (by omega) (by kernel_rfl)
      obtain rfl : y12 = .int .i64 0 := hdep 12 (by omega) (by kernel_rfl)
      go_wp2
      exact ⟨rfl, _, rfl, Below.refl _ _, rfl⟩
    · cases ho
      obtain rfl : y13 = .pointer (some ⟨Y, 0, none⟩) := hdep 13 (by omega) (by kernel_rfl)
      go_wp2
      exact ⟨rfl, _, rfl, Below.refl _ _, rfl⟩
    · cases ho
      obtain rfl : y14 = .pointer (some ⟨Y, 0, none⟩) := hdep 14 (by omega) (by kernel_rfl)
      have hyW := (hb.block Y HYl.out).trans HY.out
      have n0 : W.cell? ⟨Y, 0, none⟩ = some (.int .i64 0) := nd_cell hyW
      go_wp2
      exact ⟨rfl, _, rfl, Below.refl _ _, rfl⟩
  · intro o ho ys W hys hb hdep
    obtain ⟨y0, y1, y2, y3, y4, y5, y6, y7, y8, y9, y10, y11, y12, y13, y14, y15, y16, rfl⟩ := list17 hys
    simp only [setM, List.setIfInBounds_toArray, List.set_cons_zero, List.set_cons_succ]
    cases ho
    obtain rfl : y4 = .agg #[.int .i64 1, .string aS, .string eS, .int .i64 0] := hdep 4 (by omega) (by kernel_rfl)
    obtain ⟨b7, rfl, hz, hl⟩ : NewN (B + 1) y16 W := hdep 16 (by omega) (by kernel_rfl)
    refine wpList_putN rfl (.tmp 7) (.tmp 14) rfl rfl b7 1 aS eS 0 rfl rfl hz ?_
    refine ⟨rfl, rfl, bel_row4 hb (by have := HSz.out; omega) _, fun j hj h => ?_⟩
    match j, hj, h with
    | 0, _, h => exact h
    | 1, _, h => exact h
    | 2, _, h => exact h
    | 3, _, h => exact h
    | 4, _, h => exact h
    | 5, _, h => exact h
    | 6, _, h => exact h
    | 7, _, h => exact h
    | 8, _, h => exact h
    | 9, _, h => exact h
    | 10, _, h => exact h
    | 11, _, h => exact h
    | 12, _, h => exact h
    | 13, _, h => exact h
    | 14, _, h => exact h
    | 15, _, h => exact h
    | 16, _, h => exact ⟨b7, rfl, setRow_heap _ _ _ _ _ _ hz, hl⟩
    | k + 17, hk, _ => exact absurd hk (by omega)
  · intro ys W hys hb hall
    obtain ⟨y0, y1, y2, y3, y4, y5, y6, y7, y8, y9, y10, y11, y12, y13, y14, y15, y16, rfl⟩ := list17 hys
    simp only [setM, List.setIfInBounds_toArray, List.set_cons_zero, List.set_cons_succ]
    obtain rfl : y15 = .int .i64 0 := hall 15 (by omega)
    obtain ⟨b7, rfl, hn7, hl7⟩ : NodN (B + 1) #[.int .i64 1, .string aS, .string eS, .int .i64 0] y16 W := hall 16 (by omega)
    clear hall
    simp only [List.drop_succ_cons, List.drop_zero]
    obtain ⟨m0, m1, m2, m3⟩ := cells4 hn7
    have cB := (hb.cell (p := ⟨B, 0, none⟩) HBl.out).trans C0.out
    have hyW := (hb.block Y HYl.out).trans HY.out
    have HB2 := Lib.hid hb
    clear hb hyW
    generalize W = W2 at *
    go_wp2
    go_ret
    exact ⟨rB (by simp), hBe ▸ HB0.out.trans (HB2.out.mono (by have := HB0.out.size; omega))⟩
def pl2 (B Y : Nat) : Bool → Nat → Value → World → Prop
  | _, 0 => fun v _ => v = .pointer (some ⟨B, 0, none⟩)
  | _, 1 => fun v _ => v = .slice (some ⟨Y, 0, none⟩) 4 4
  | _, 2 => fun v _ => v = .int .i64 2
  | _, 3 => fun v _ => v = .pointer (some ⟨Y, 8, none⟩)
  | _, 4 => fun v _ => v = .agg #[.int .i64 2, .string xS, .string oS, .int .i64 1]
  | _, 5 => fun v _ => v = .pointer (some ⟨B, 0, none⟩)
  | _, 6 => fun v _ => v = .slice (some ⟨Y, 0, none⟩) 4 4
  | _, 7 => fun v _ => v = .pointer (some ⟨B, 0, none⟩)
  | _, 8 => fun v _ => v = .slice (some ⟨Y, 0, none⟩) 4 4
  | _, 9 => fun v _ => v = .int .i64 2
  | _, 10 => fun v _ => v = .pointer (some ⟨Y, 8, none⟩)
  | _, 11 => fun v _ => v = .pointer (some ⟨Y, 11, none⟩)
  | _, 12 => fun v _ => v = .int .i64 1
  | _, 13 => fun v _ => v = .pointer (some ⟨Y, 4, none⟩)
  | _, 14 => fun v _ => v = .pointer (some ⟨Y, 4, none⟩)
  | _, 15 => fun v _ => v = .int .i64 1
  | false, 16 => NewN (B + 1)
  | true, 16 => NodN (B + 1) #[.int .i64 2, .string xS, .string oS, .int .i64 1]
  | _, _ => fun _ _ => True
theorem pl2m (B Y : Nat) (s : Bool) (jx : Nat) (v : Value) (w w' : World) (hb : Below w.heap.size w w') (h : pl2 B Y s jx v w) : pl2 B Y s jx v w' := by
  unfold pl2 at h ⊢
  split at h
  all_goals first | exact h | exact NewN.mono hb h | exact NodN.mono hb h | trivial
set_option maxRecDepth 100000 in
set_option maxHeartbeats 4000000 in
theorem placed2 (Y : Nat) (w : World) (hy : w.heap[Y]? = some (.cells ndC 70 (0, 0))) : Calls Tryz.prog 61 #[tr1 Y, .int .i64 2, .int .i64 0] w (AllP w) := by
  have hYl := (Array.getElem?_eq_some_iff.1 hy).1
  have HB0 := Lib.hid (box1 w 73 #[.slice (some ⟨Y, 0, none⟩) 4 4])
  have HY := Lib.hid (hp_past (o := .cells #[.slice (some ⟨Y, 0, none⟩) 4 4] 73) hy)
  have C0 : Hid ((w.alloc (.cells #[.slice (some ⟨Y, 0, none⟩) 4 4] 73)).cell? ⟨w.heap.size, 0, none⟩ = some (.slice (some ⟨Y, 0, none⟩) 4 4)) := Lib.hid (cell_of_row _ _ 0 _ _ _ (hp_new rfl))
  have HBl : Hid (w.heap.size < (w.alloc (.cells #[.slice (some ⟨Y, 0, none⟩) 4 4] 73)).heap.size) := Lib.hid (by simp)
  have HYl : Hid (Y < (w.alloc (.cells #[.slice (some ⟨Y, 0, none⟩) 4 4] 73)).heap.size) := Lib.hid (by simp; omega)
  have HSz : Hid ((w.alloc (.cells #[.slice (some ⟨Y, 0, none⟩) 4 4] 73)).heap.size = w.heap.size + 1) := Lib.hid (by simp)
  clear hy hYl
  unfold tr1
  go_enter Tryz.func61, Tryz.ntmps61
  go_wp2_with fail
  generalize w.alloc (.cells #[.slice (some ⟨Y, 0, none⟩) 4 4] 73) = W0 at *
  generalize hBe : w.heap.size = B at *
  refine wp_region_drawn2 (by kernel_rfl) 17 75 [10, 11, 12, 13, 14, 15, 16, 17, 18, 19, 20, 21, 22, 23, 24, 25, 7] [5, 6, 7, 8, 9, 10, 11, 12, 13, 14, 15] (pl2 B Y) rfl (by kernel_rfl) (pl2m _ _) ?_ ?_ ?_ ?_
  · intro i o hi ho ys W hys hb hdep
    obtain ⟨y0, y1, y2, y3, y4, y5, y6, y7, y8, y9, y10, y11, y12, y13, y14, y15, y16, rfl⟩ := list17 hys
    have hi' : i = 0 ∨ i = 1 ∨ i = 2 ∨ i = 3 ∨ i = 4 ∨ i = 5 ∨ i = 6 ∨ i = 7 ∨ i = 8 ∨ i = 9 ∨ i = 10 ∨ i = 11 ∨ i = 12 ∨ i = 13 ∨ i = 14 ∨ i = 15 ∨ i = 16 := by omega
    simp only [setM, List.setIfInBounds_toArray, List.set_cons_zero, List.set_cons_succ]
    rcases hi' with rfl | rfl | rfl | rfl | rfl | rfl | rfl | rfl | rfl | rfl | rfl | rfl | rfl | rfl | rfl | rfl | rfl
    · cases ho
      go_wp2
      exact ⟨rfl, _, rfl, Below.refl _ _, rfl⟩
    · cases ho
      obtain rfl : y0 = .pointer (some ⟨B, 0, none⟩) := hdep 0 (by omega) (by kernel_rfl)
      have cB := (hb.cell (p := ⟨B, 0, none⟩) HBl.out).trans C0.out
      go_wp2
      exact ⟨rfl, _, rfl, Below.refl _ _, rfl⟩
    · cases ho
      go_wp2
      exact ⟨rfl, _, rfl, Below.refl _ _, rfl⟩
    · cases ho
      obtain rfl : y1 = .slice (some ⟨Y, 0, none⟩) 4 4 := hdep 1 (by omega) (by kernel_rfl)
      obtain rfl : y2 = .int .i64 2 := hdep 2 (by omega) (by kernel_rfl)
      go_wp2
      exact ⟨rfl, _, rfl, Below.refl _ _, rfl⟩
    · cases ho
      obtain rfl : y3 = .pointer (some ⟨Y, 8, none⟩) := hdep 3 (by omega) (by kernel_rfl)
      have hyW := (hb.block Y HYl.out).trans HY.out
      have n8 : W.cell? ⟨Y, 8, none⟩ = some (.int .i64 2) := nd_cell hyW
      have n9 : W.cell? ⟨Y, 9, none⟩ = some (.string xS) := nd_cell hyW
      have n10 : W.cell? ⟨Y, 10, none⟩ = some (.string oS) := nd_cell hyW
      have n11 : W.cell? ⟨Y, 11, none⟩ = some (.int .i64 1) := nd_cell hyW
      go_wp2
      exact ⟨rfl, _, rfl, Below.refl _ _, rfl⟩
    · cases ho
      go_wp2
      exact ⟨rfl, _, rfl, Below.refl _ _, rfl⟩
    · cases ho
      obtain rfl : y5 = .pointer (some ⟨B, 0, none⟩) := hdep 5 (by omega) (by kernel_rfl)
      have cB := (hb.cell (p := ⟨B, 0, none⟩) HBl.out).trans C0.out
      go_wp2
      exact ⟨rfl, _, rfl, Below.refl _ _, rfl⟩
    · cases ho
      go_wp2
      exact ⟨rfl, _, rfl, Below.refl _ _, rfl⟩
    · cases ho
      obtain rfl : y7 = .pointer (some ⟨B, 0, none⟩) := hdep 7 (by omega) (by kernel_rfl)
      have cB := (hb.cell (p := ⟨B, 0, none⟩) HBl.out).trans C0.out
      go_wp2
      exact ⟨rfl, _, rfl, Below.refl _ _, rfl⟩
    · cases ho
      go_wp2
      exact ⟨rfl, _, rfl, Below.refl _ _, rfl⟩
    · cases ho
      obtain rfl : y8 = .slice (some ⟨Y, 0, none⟩) 4 4 := hdep 8 (by omega) (by kernel_rfl)
      obtain rfl : y9 = .int .i64 2 := hdep 9 (by omega) (by kernel_rfl)
      go_wp2
      exact ⟨rfl, _, rfl, Below.refl _ _, rfl⟩
    · cases ho
      obtain rfl : y10 = .pointer (some ⟨Y, 8, none⟩) := hdep 10 (by omega) (by kernel_rfl)
      go_wp2
      exact ⟨rfl, _, rfl, Below.refl _ _, rfl⟩
    · cases ho
      obtain rfl : y11 = .pointer (some ⟨Y, 11, none⟩) := hdep 11 (by omega) (by kernel_rfl)
      have hyW := (hb.block Y HYl.out).trans HY.out
      have n11 : W.cell? ⟨Y, 11, none⟩ = some (.int .i64 1) := nd_cell hyW
      go_wp2
      exact ⟨rfl, _, rfl, Below.refl _ _, rfl⟩
    · cases ho
      obtain rfl : y6 = .slice (some ⟨Y, 0, none⟩) 4 4 := hdep 6 (by omega) (by kernel_rfl)
      obtain rfl : y12 = .int .i64 1 := hdep 12 (by omega) (by kernel_rfl)
      go_wp2
      exact ⟨rfl, _, rfl, Below.refl _ _, rfl⟩
    · cases ho
      obtain rfl : y13 = .pointer (some ⟨Y, 4, none⟩) := hdep 13 (by omega) (by kernel_rfl)
      go_wp2
      exact ⟨rfl, _, rfl, Below.refl _ _, rfl⟩
    · cases ho
      obtain rfl : y14 = .pointer (some ⟨Y, 4, none⟩) := hdep 14 (by omega) (by kernel_rfl)
      have hyW := (hb.block Y HYl.out).trans HY.out
      have n4 : W.cell? ⟨Y, 4, none⟩ = some (.int .i64 1) := nd_cell hyW
      go_wp2
      exact ⟨rfl, _, rfl, Below.refl _ _, rfl⟩
    · cases ho
      go_wp2
      exact ⟨rfl, _, rfl, box1 _ _ _, _, rfl, hp_new rfl, by have := hb.size; have := HSz.out; omega⟩
  · intro i o hl hi ho ys W hys hb hdep
    obtain ⟨y0, y1, y2, y3, y4, y5, y6, y7, y8, y9, y10, y11, y12, y13, y14, y15, y16, rfl⟩ := list17 hys
    simp only [setM, List.setIfInBounds_toArray, List.set_cons_zero, List.set_cons_succ]
    have hi' : i = 5 ∨ i = 6 ∨ i = 7 ∨ i = 8 ∨ i = 9 ∨ i = 10 ∨ i = 11 ∨ i = 12 ∨ i = 13 ∨ i = 14 ∨ i = 15 := by simpa using hl
    rcases hi' with rfl | rfl | rfl | rfl | rfl | rfl | rfl | rfl | rfl | rfl | rfl
    · cases ho
      go_wp2
      exact ⟨rfl, _, rfl, Below.refl _ _, rfl⟩
    · cases ho
      obtain rfl : y5 = .pointer (some ⟨B, 0, none⟩) := hdep 5 (by omega) (by kernel_rfl)
      have cB := (hb.cell (p := ⟨B, 0, none⟩) HBl.out).trans C0.out
      go_wp2
      exact ⟨rfl, _, rfl, Below.refl _ _, rfl⟩
    · cases ho
      go_wp2
      exact ⟨rfl, _, rfl, Below.refl _ _, rfl⟩
    · cases ho
      obtain rfl : y7 = .pointer (some ⟨B, 0, none⟩) := hdep 7 (by omega) (by kernel_rfl)
      have cB := (hb.cell (p := ⟨B, 0, none⟩) HBl.out).trans C0.out
      go_wp2
      exact ⟨rfl, _, rfl, Below.refl _ _, rfl⟩
    · cases ho
      go_wp2
      exact ⟨rfl, _, rfl, Below.refl _ _, rfl⟩
    · cases ho
      obtain rfl : y8 = .slice (some ⟨Y, 0, none⟩) 4 4 := hdep 8 (by omega) (by kernel_rfl)
      obtain rfl : y9 = .int .i64 2 := hdep 9 (by omega) (by kernel_rfl)
      go_wp2
      exact ⟨rfl, _, rfl, Below.refl _ _, rfl⟩
    · cases ho
      obtain rfl : y10 = .pointer (some ⟨Y, 8, none⟩) := hdep 10 (by omega) (by kernel_rfl)
      go_wp2
      exact ⟨rfl, _, rfl, Below.refl _ _, rfl⟩
    · cases ho
      obtain rfl : y11 = .pointer (some ⟨Y, 11, none⟩) := hdep 11 (by omega) (by kernel_rfl)
      have hyW := (hb.block Y HYl.out).trans HY.out
      have n11 : W.cell? ⟨Y, 11, none⟩ = some (.int .i64 1) := nd_cell hyW
      go_wp2
      exact ⟨rfl, _, rfl, Below.refl _ _, rfl⟩
    · cases ho
      obtain rfl : y6 = .slice (some ⟨Y, 0, none⟩) 4 4 := hdep 6 (by omega) (by kernel_rfl)
      obtain rfl : y12 = .int .i64 1 := hdep 12 (by omega) (by kernel_rfl)
      go_wp2
      exact ⟨rfl, _, rfl, Below.refl _ _, rfl⟩
    · cases ho
      obtain rfl : y13 = .pointer (some ⟨Y, 4, none⟩) := hdep 13 (by omega) (by kernel_rfl)
      go_wp2
      exact ⟨rfl, _, rfl, Below.refl _ _, rfl⟩
    · cases ho
      obtain rfl : y14 = .pointer (some ⟨Y, 4, none⟩) := hdep 14 (by omega) (by kernel_rfl)
      have hyW := (hb.block Y HYl.out).trans HY.out
      have n4 : W.cell? ⟨Y, 4, none⟩ = some (.int .i64 1) := nd_cell hyW
      go_wp2
      exact ⟨rfl, _, rfl, Below.refl _ _, rfl⟩
  · intro o ho ys W hys hb hdep
    obtain ⟨y0, y1, y2, y3, y4, y5, y6, y7, y8, y9, y10, y11, y12, y13, y14, y15, y16, rfl⟩ := list17 hys
    simp only [setM, List.setIfInBounds_toArray, List.set_cons_zero, List.set_cons_succ]
    cases ho
    obtain rfl : y4 = .agg #[.int .i64 2, .string xS, .string oS, .int .i64 1] := hdep 4 (by omega) (by kernel_rfl)
    obtain ⟨b7, rfl, hz, hl⟩ : NewN (B + 1) y16 W := hdep 16 (by omega) (by kernel_rfl)
    refine wpList_putN rfl (.tmp 7) (.tmp 14) rfl rfl b7 2 xS oS 1 rfl rfl hz ?_
    refine ⟨rfl, rfl, bel_row4 hb (by have := HSz.out; omega) _, fun j hj h => ?_⟩
    match j, hj, h with
    | 0, _, h => exact h
    | 1, _, h => exact h
    | 2, _, h => exact h
    | 3, _, h => exact h
    | 4, _, h => exact h
    | 5, _, h => exact h
    | 6, _, h => exact h
    | 7, _, h => exact h
    | 8, _, h => exact h
    | 9, _, h => exact h
    | 10, _, h => exact h
    | 11, _, h => exact h
    | 12, _, h => exact h
    | 13, _, h => exact h
    | 14, _, h => exact h
    | 15, _, h => exact h
    | 16, _, h => exact ⟨b7, rfl, setRow_heap _ _ _ _ _ _ hz, hl⟩
    | k + 17, hk, _ => exact absurd hk (by omega)
  · intro ys W hys hb hall
    obtain ⟨y0, y1, y2, y3, y4, y5, y6, y7, y8, y9, y10, y11, y12, y13, y14, y15, y16, rfl⟩ := list17 hys
    simp only [setM, List.setIfInBounds_toArray, List.set_cons_zero, List.set_cons_succ]
    obtain rfl : y15 = .int .i64 1 := hall 15 (by omega)
    obtain ⟨b7, rfl, hn7, hl7⟩ : NodN (B + 1) #[.int .i64 2, .string xS, .string oS, .int .i64 1] y16 W := hall 16 (by omega)
    clear hall
    simp only [List.drop_succ_cons, List.drop_zero]
    obtain ⟨m0, m1, m2, m3⟩ := cells4 hn7
    have cB := (hb.cell (p := ⟨B, 0, none⟩) HBl.out).trans C0.out
    have hyW := (hb.block Y HYl.out).trans HY.out
    have HB2 := Lib.hid hb
    clear hb hyW
    generalize W = W2 at *
    go_wp2
    go_ret
    exact ⟨rB (by simp), hBe ▸ HB0.out.trans (HB2.out.mono (by have := HB0.out.size; omega))⟩
def pl3 (B Y : Nat) : Bool → Nat → Value → World → Prop
  | _, 0 => fun v _ => v = .pointer (some ⟨B, 0, none⟩)
  | _, 1 => fun v _ => v = .slice (some ⟨Y, 0, none⟩) 4 4
  | _, 2 => fun v _ => v = .int .i64 3
  | _, 3 => fun v _ => v = .pointer (some ⟨Y, 12, none⟩)
  | _, 4 => fun v _ => v = .agg #[.int .i64 3, .string eS, .string wS, .int .i64 1]
  | _, 5 => fun v _ => v = .pointer (some ⟨B, 0, none⟩)
  | _, 6 => fun v _ => v = .slice (some ⟨Y, 0, none⟩) 4 4
  | _, 7 => fun v _ => v = .pointer (some ⟨B, 0, none⟩)
  | _, 8 => fun v _ => v = .slice (some ⟨Y, 0, none⟩) 4 4
  | _, 9 => fun v _ => v = .int .i64 3
  | _, 10 => fun v _ => v = .pointer (some ⟨Y, 12, none⟩)
  | _, 11 => fun v _ => v = .pointer (some ⟨Y, 15, none⟩)
  | _, 12 => fun v _ => v = .int .i64 1
  | _, 13 => fun v _ => v = .pointer (some ⟨Y, 4, none⟩)
  | _, 14 => fun v _ => v = .pointer (some ⟨Y, 4, none⟩)
  | _, 15 => fun v _ => v = .int .i64 1
  | false, 16 => NewN (B + 1)
  | true, 16 => NodN (B + 1) #[.int .i64 3, .string eS, .string wS, .int .i64 1]
  | _, _ => fun _ _ => True
theorem pl3m (B Y : Nat) (s : Bool) (jx : Nat) (v : Value) (w w' : World) (hb : Below w.heap.size w w') (h : pl3 B Y s jx v w) : pl3 B Y s jx v w' := by
  unfold pl3 at h ⊢
  split at h
  all_goals first | exact h | exact NewN.mono hb h | exact NodN.mono hb h | trivial
set_option maxRecDepth 100000 in
set_option maxHeartbeats 4000000 in
theorem placed3 (Y : Nat) (w : World) (hy : w.heap[Y]? = some (.cells ndC 70 (0, 0))) : Calls Tryz.prog 61 #[tr1 Y, .int .i64 3, .int .i64 2] w (AllP w) := by
  have hYl := (Array.getElem?_eq_some_iff.1 hy).1
  have HB0 := Lib.hid (box1 w 73 #[.slice (some ⟨Y, 0, none⟩) 4 4])
  have HY := Lib.hid (hp_past (o := .cells #[.slice (some ⟨Y, 0, none⟩) 4 4] 73) hy)
  have C0 : Hid ((w.alloc (.cells #[.slice (some ⟨Y, 0, none⟩) 4 4] 73)).cell? ⟨w.heap.size, 0, none⟩ = some (.slice (some ⟨Y, 0, none⟩) 4 4)) := Lib.hid (cell_of_row _ _ 0 _ _ _ (hp_new rfl))
  have HBl : Hid (w.heap.size < (w.alloc (.cells #[.slice (some ⟨Y, 0, none⟩) 4 4] 73)).heap.size) := Lib.hid (by simp)
  have HYl : Hid (Y < (w.alloc (.cells #[.slice (some ⟨Y, 0, none⟩) 4 4] 73)).heap.size) := Lib.hid (by simp; omega)
  have HSz : Hid ((w.alloc (.cells #[.slice (some ⟨Y, 0, none⟩) 4 4] 73)).heap.size = w.heap.size + 1) := Lib.hid (by simp)
  clear hy hYl
  unfold tr1
  go_enter Tryz.func61, Tryz.ntmps61
  go_wp2_with fail
  generalize w.alloc (.cells #[.slice (some ⟨Y, 0, none⟩) 4 4] 73) = W0 at *
  generalize hBe : w.heap.size = B at *
  refine wp_region_drawn2 (by kernel_rfl) 17 75 [10, 11, 12, 13, 14, 15, 16, 17, 18, 19, 20, 21, 22, 23, 24, 25, 7] [5, 6, 7, 8, 9, 10, 11, 12, 13, 14, 15] (pl3 B Y) rfl (by kernel_rfl) (pl3m _ _) ?_ ?_ ?_ ?_
  · intro i o hi ho ys W hys hb hdep
    obtain ⟨y0, y1, y2, y3, y4, y5, y6, y7, y8, y9, y10, y11, y12, y13, y14, y15, y16, rfl⟩ := list17 hys
    have hi' : i = 0 ∨ i = 1 ∨ i = 2 ∨ i = 3 ∨ i = 4 ∨ i = 5 ∨ i = 6 ∨ i = 7 ∨ i = 8 ∨ i = 9 ∨ i = 10 ∨ i = 11 ∨ i = 12 ∨ i = 13 ∨ i = 14 ∨ i = 15 ∨ i = 16 := by omega
    simp only [setM, List.setIfInBounds_toArray, List.set_cons_zero, List.set_cons_succ]
    rcases hi' with rfl | rfl | rfl | rfl | rfl | rfl | rfl | rfl | rfl | rfl | rfl | rfl | rfl | rfl | rfl | rfl | rfl
    · cases ho
      go_wp2
      exact ⟨rfl, _, rfl, Below.refl _ _, rfl⟩
    · cases ho
      obtain rfl : y0 = .pointer (some ⟨B, 0, none⟩) := hdep 0 (by omega) (by kernel_rfl)
      have cB := (hb.cell (p := ⟨B, 0, none⟩) HBl.out).trans C0.out
      go_wp2
      exact ⟨rfl, _, rfl, Below.refl _ _, rfl⟩
    · cases ho
      go_wp2
      exact ⟨rfl, _, rfl, Below.refl _ _, rfl⟩
    · cases ho
      obtain rfl : y1 = .slice (some ⟨Y, 0, none⟩) 4 4 := hdep 1 (by omega) (by kernel_rfl)
      obtain rfl : y2 = .int .i64 3 := hdep 2 (by omega) (by kernel_rfl)
      go_wp2
      exact ⟨rfl, _, rfl, Below.refl _ _, rfl⟩
    · cases ho
      obtain rfl : y3 = .pointer (some ⟨Y, 12, none⟩) := hdep 3 (by omega) (by kernel_rfl)
      have hyW := (hb.block Y HYl.out).trans HY.out
      have n12 : W.cell? ⟨Y, 12, none⟩ = some (.int .i64 3) := nd_cell hyW
      have n13 : W.cell? ⟨Y, 13, none⟩ = some (.string eS) := nd_cell hyW
      have n14 : W.cell? ⟨Y, 14, none⟩ = some (.string wS) := nd_cell hyW
      have n15 : W.cell? ⟨Y, 15, none⟩ = some (.int .i64 1) := nd_cell hyW
      go_wp2
      exact ⟨rfl, _, rfl, Below.refl _ _, rfl⟩
    · cases ho
      go_wp2
      exact ⟨rfl, _, rfl, Below.refl _ _, rfl⟩
    · cases ho
      obtain rfl : y5 = .pointer (some ⟨B, 0, none⟩) := hdep 5 (by omega) (by kernel_rfl)
      have cB := (hb.cell (p := ⟨B, 0, none⟩) HBl.out).trans C0.out
      go_wp2
      exact ⟨rfl, _, rfl, Below.refl _ _, rfl⟩
    · cases ho
      go_wp2
      exact ⟨rfl, _, rfl, Below.refl _ _, rfl⟩
    · cases ho
      obtain rfl : y7 = .pointer (some ⟨B, 0, none⟩) := hdep 7 (by omega) (by kernel_rfl)
      have cB := (hb.cell (p := ⟨B, 0, none⟩) HBl.out).trans C0.out
      go_wp2
      exact ⟨rfl, _, rfl, Below.refl _ _, rfl⟩
    · cases ho
      go_wp2
      exact ⟨rfl, _, rfl, Below.refl _ _, rfl⟩
    · cases ho
      obtain rfl : y8 = .slice (some ⟨Y, 0, none⟩) 4 4 := hdep 8 (by omega) (by kernel_rfl)
      obtain rfl : y9 = .int .i64 3 := hdep 9 (by omega) (by kernel_rfl)
      go_wp2
      exact ⟨rfl, _, rfl, Below.refl _ _, rfl⟩
    · cases ho
      obtain rfl : y10 = .pointer (some ⟨Y, 12, none⟩) := hdep 10 (by omega) (by kernel_rfl)
      go_wp2
      exact ⟨rfl, _, rfl, Below.refl _ _, rfl⟩
    · cases ho
      obtain rfl : y11 = .pointer (some ⟨Y, 15, none⟩) := hdep 11 (by omega) (by kernel_rfl)
      have hyW := (hb.block Y HYl.out).trans HY.out
      have n15 : W.cell? ⟨Y, 15, none⟩ = some (.int .i64 1) := nd_cell hyW
      go_wp2
      exact ⟨rfl, _, rfl, Below.refl _ _, rfl⟩
    · cases ho
      obtain rfl : y6 = .slice (some ⟨Y, 0, none⟩) 4 4 := hdep 6 (by omega) (by kernel_rfl)
      obtain rfl : y12 = .int .i64 1 := hdep 12 (by omega) (by kernel_rfl)
      go_wp2
      exact ⟨rfl, _, rfl, Below.refl _ _, rfl⟩
    · cases ho
      obtain rfl : y13 = .pointer (some ⟨Y, 4, none⟩) := hdep 13 (by omega) (by kernel_rfl)
      go_wp2
      exact ⟨rfl, _, rfl, Below.refl _ _, rfl⟩
    · cases ho
      obtain rfl : y14 = .pointer (some ⟨Y, 4, none⟩) := hdep 14 (by omega) (by kernel_rfl)
      have hyW := (hb.block Y HYl.out).trans HY.out
      have n4 : W.cell? ⟨Y, 4, none⟩ = some (.int .i64 1) := nd_cell hyW
      go_wp2
      exact ⟨rfl, _, rfl, Below.refl _ _, rfl⟩
    · cases ho
      go_wp2
      exact ⟨rfl, _, rfl, box1 _ _ _, _, rfl, hp_new rfl, by have := hb.size; have := HSz.out; omega⟩
  · intro i o hl hi ho ys W hys hb hdep
    obtain ⟨y0, y1, y2, y3, y4, y5, y6, y7, y8, y9, y10, y11, y12, y13, y14, y15, y16, rfl⟩ := list17 hys
    simp only [setM, List.setIfInBounds_toArray, List.set_cons_zero, List.set_cons_succ]
    have hi' : i = 5 ∨ i = 6 ∨ i = 7 ∨ i = 8 ∨ i = 9 ∨ i = 10 ∨ i = 11 ∨ i = 12 ∨ i = 13 ∨ i = 14 ∨ i = 15 := by simpa using hl
    rcases hi' with rfl | rfl | rfl | rfl | rfl | rfl | rfl | rfl | rfl | rfl | rfl
    · cases ho
      go_wp2
      exact ⟨rfl, _, rfl, Below.refl _ _, rfl⟩
    · cases ho
      obtain rfl : y5 = .pointer (some ⟨B, 0, none⟩) := hdep 5 (by omega) (by kernel_rfl)
      have cB := (hb.cell (p := ⟨B, 0, none⟩) HBl.out).trans C0.out
      go_wp2
      exact ⟨rfl, _, rfl, Below.refl _ _, rfl⟩
    · cases ho
      go_wp2
      exact ⟨rfl, _, rfl, Below.refl _ _, rfl⟩
    · cases ho
      obtain rfl : y7 = .pointer (some ⟨B, 0, none⟩) := hdep 7 (by omega) (by kernel_rfl)
      have cB := (hb.cell (p := ⟨B, 0, none⟩) HBl.out).trans C0.out
      go_wp2
      exact ⟨rfl, _, rfl, Below.refl _ _, rfl⟩
    · cases ho
      go_wp2
      exact ⟨rfl, _, rfl, Below.refl _ _, rfl⟩
    · cases ho
      obtain rfl : y8 = .slice (some ⟨Y, 0, none⟩) 4 4 := hdep 8 (by omega) (by kernel_rfl)
      obtain rfl : y9 = .int .i64 3 := hdep 9 (by omega) (by kernel_rfl)
      go_wp2
      exact ⟨rfl, _, rfl, Below.refl _ _, rfl⟩
    · cases ho
      obtain rfl : y10 = .pointer (some ⟨Y, 12, none⟩) := hdep 10 (by omega) (by kernel_rfl)
      go_wp2
      exact ⟨rfl, _, rfl, Below.refl _ _, rfl⟩
    · cases ho
      obtain rfl : y11 = .pointer (some ⟨Y, 15, none⟩) := hdep 11 (by omega) (by kernel_rfl)
      have hyW := (hb.block Y HYl.out).trans HY.out
      have n15 : W.cell? ⟨Y, 15, none⟩ = some (.int .i64 1) := nd_cell hyW
      go_wp2
      exact ⟨rfl, _, rfl, Below.refl _ _, rfl⟩
    · cases ho
      obtain rfl : y6 = .slice (some ⟨Y, 0, none⟩) 4 4 := hdep 6 (by omega) (by kernel_rfl)
      obtain rfl : y12 = .int .i64 1 := hdep 12 (by omega) (by kernel_rfl)
      go_wp2
      exact ⟨rfl, _, rfl, Below.refl _ _, rfl⟩
    · cases ho
      obtain rfl : y13 = .pointer (some ⟨Y, 4, none⟩) := hdep 13 (by omega) (by kernel_rfl)
      go_wp2
      exact ⟨rfl, _, rfl, Below.refl _ _, rfl⟩
    · cases ho
      obtain rfl : y14 = .pointer (some ⟨Y, 4, none⟩) := hdep 14 (by omega) (by kernel_rfl)
      have hyW := (hb.block Y HYl.out).trans HY.out
      have n4 : W.cell? ⟨Y, 4, none⟩ = some (.int .i64 1) := nd_cell hyW
      go_wp2
      exact ⟨rfl, _, rfl, Below.refl _ _, rfl⟩
  · intro o ho ys W hys hb hdep
    obtain ⟨y0, y1, y2, y3, y4, y5, y6, y7, y8, y9, y10, y11, y12, y13, y14, y15, y16, rfl⟩ := list17 hys
    simp only [setM, List.setIfInBounds_toArray, List.set_cons_zero, List.set_cons_succ]
    cases ho
    obtain rfl : y4 = .agg #[.int .i64 3, .string eS, .string wS, .int .i64 1] := hdep 4 (by omega) (by kernel_rfl)
    obtain ⟨b7, rfl, hz, hl⟩ : NewN (B + 1) y16 W := hdep 16 (by omega) (by kernel_rfl)
    refine wpList_putN rfl (.tmp 7) (.tmp 14) rfl rfl b7 3 eS wS 1 rfl rfl hz ?_
    refine ⟨rfl, rfl, bel_row4 hb (by have := HSz.out; omega) _, fun j hj h => ?_⟩
    match j, hj, h with
    | 0, _, h => exact h
    | 1, _, h => exact h
    | 2, _, h => exact h
    | 3, _, h => exact h
    | 4, _, h => exact h
    | 5, _, h => exact h
    | 6, _, h => exact h
    | 7, _, h => exact h
    | 8, _, h => exact h
    | 9, _, h => exact h
    | 10, _, h => exact h
    | 11, _, h => exact h
    | 12, _, h => exact h
    | 13, _, h => exact h
    | 14, _, h => exact h
    | 15, _, h => exact h
    | 16, _, h => exact ⟨b7, rfl, setRow_heap _ _ _ _ _ _ hz, hl⟩
    | k + 17, hk, _ => exact absurd hk (by omega)
  · intro ys W hys hb hall
    obtain ⟨y0, y1, y2, y3, y4, y5, y6, y7, y8, y9, y10, y11, y12, y13, y14, y15, y16, rfl⟩ := list17 hys
    simp only [setM, List.setIfInBounds_toArray, List.set_cons_zero, List.set_cons_succ]
    obtain rfl : y15 = .int .i64 1 := hall 15 (by omega)
    obtain ⟨b7, rfl, hn7, hl7⟩ : NodN (B + 1) #[.int .i64 3, .string eS, .string wS, .int .i64 1] y16 W := hall 16 (by omega)
    clear hall
    simp only [List.drop_succ_cons, List.drop_zero]
    obtain ⟨m0, m1, m2, m3⟩ := cells4 hn7
    have cB := (hb.cell (p := ⟨B, 0, none⟩) HBl.out).trans C0.out
    have hyW := (hb.block Y HYl.out).trans HY.out
    have n8 : W.cell? ⟨Y, 8, none⟩ = some (.int .i64 2) := nd_cell hyW
    have HB2 := Lib.hid hb
    clear hb hyW
    generalize W = W2 at *
    go_wp2
    go_ret
    exact ⟨rB (by simp), hBe ▸ HB0.out.trans (HB2.out.mono (by have := HB0.out.size; omega))⟩
theorem placed_ex (i b : Int) (Y : Nat) (w : World) (h : (i = 1 ∧ b = 0) ∨ (i = 2 ∧ b = 0) ∨ (i = 3 ∧ b = 2)) (hy : w.heap[Y]? = some (.cells ndC 70 (0, 0))) : Calls Tryz.prog 61 #[tr1 Y, .int .i64 i, .int .i64 b] w (AllP w) := by
  rcases h with ⟨rfl, rfl⟩ | ⟨rfl, rfl⟩ | ⟨rfl, rfl⟩
  · exact placed1 Y w hy
  · exact placed2 Y w hy
  · exact placed3 Y w hy
end Go.Proofs.YtajkdllakleakaaGreatDoor
