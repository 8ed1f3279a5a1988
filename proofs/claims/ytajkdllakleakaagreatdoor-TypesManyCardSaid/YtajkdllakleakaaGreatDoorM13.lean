/- Chapter 16: works() returns true (printed by gen_wks.py). -/
import Derived.Test.YtajkdllakleakaaGreatDoorM12
import Derived.Test.YtajkdllakleakaaGreatDoorM10
import Derived.Test.YtajkdllakleakaaGreatDoorTo
namespace Go.Proofs.YtajkdllakleakaaGreatDoor
open Go.RowKit
set_option linter.unusedVariables false
set_option linter.unusedSimpArgs false

theorem typeB_plus : typeB (tyA 4 { data := #[43] }) = true := by decide +kernel
theorem typeB_one : typeB (tyA 3 nS) = true := by decide +kernel
def twoRes : List IRow := [atomR 3 wS, atomR 3 oS]
def boxO : Array Value := #[.int .i64 0, .int .i64 3, .string oS, .int .i64 0, .int .i64 0, .slice none 0 0, .slice none 0 0, .pointer none]
/-- The state of works. -/
structure WkS (w W : World) (Bo : Nat) (v : Value) : Prop where
  b : Below w.heap.size w W
  o : W.heap[Bo]? = some (.cells boxO 29 (0, 0))
  r : RdI W twoRes v
  t : Tabs W
theorem WkS.go {w W W' : World} {Bo : Nat} {v : Value} (h : WkS w W Bo v) (hb : Below W.heap.size W W') : WkS w W' Bo v :=
  ⟨h.b.trans (hb.mono h.b.size), (hb.block _ (lt_heap h.o)).trans h.o, RdRows.below h.r hb, h.t.below hb⟩
def SlP (x y : IRow) (v : Value) (w : World) : Prop := ∃ B, v = .slice (some ⟨B, 0, none⟩) 2 2 ∧ w.heap[B]? = some (.cells (twoC x y) 29 (0, 0))
theorem SlP.mono {x y : IRow} {v : Value} {w w' : World} (hb : Below w.heap.size w w') (h : SlP x y v w) : SlP x y v w' := by
  obtain ⟨B, e, h1⟩ := h
  exact ⟨B, e, (hb.block B (lt_heap h1)).trans h1⟩
theorem list24w {l : List Value} (h : l.length = 24) : ∃ y0 y1 y2 y3 y4 y5 y6 y7 y8 y9 y10 y11 y12 y13 y14 y15 y16 y17 y18 y19 y20 y21 y22 y23, l = [y0, y1, y2, y3, y4, y5, y6, y7, y8, y9, y10, y11, y12, y13, y14, y15, y16, y17, y18, y19, y20, y21, y22, y23] := by
  match l, h with
  | y0 :: y1 :: y2 :: y3 :: y4 :: y5 :: y6 :: y7 :: y8 :: y9 :: y10 :: y11 :: y12 :: y13 :: y14 :: y15 :: y16 :: y17 :: y18 :: y19 :: y20 :: y21 :: y22 :: y23 :: [], _ => exact ⟨y0, y1, y2, y3, y4, y5, y6, y7, y8, y9, y10, y11, y12, y13, y14, y15, y16, y17, y18, y19, y20, y21, y22, y23, rfl⟩
def wks (A : Option Addr) (c Bo : Nat) : Nat → Value → World → Prop
  | 0 => fun v _ => v = .int .i64 0
  | 1 => fun v _ => v = .bool true
  | 2 => fun v _ => v = .bool true
  | 3 => fun v _ => v = .slice A 2 c
  | 4 => fun v _ => v = .agg #[.int .i64 0, .int .i64 3, .string wS, .int .i64 0, .int .i64 0, .slice none 0 0, .slice none 0 0, .pointer none]
  | 5 => fun v _ => v = .agg #[.int .i64 0, .int .i64 3, .string oS, .int .i64 0, .int .i64 0, .slice none 0 0, .slice none 0 0, .pointer none]
  | 6 => SlP (atomR 3 wS) (atomR 3 oS)
  | 7 => fun v _ => v = .bool true
  | 8 => fun v _ => v = .bool true
  | 9 => fun v _ => v = .bool true
  | 10 => fun v _ => v = .agg #[.int .i64 0, .int .i64 3, .string oS, .int .i64 0, .int .i64 0, .slice none 0 0, .slice none 0 0, .pointer none]
  | 11 => fun v _ => v = .agg #[.int .i64 0, .int .i64 3, .string oS, .int .i64 0, .int .i64 0, .slice none 0 0, .slice none 0 0, .pointer none]
  | 12 => SlP (atomR 3 oS) (atomR 3 oS)
  | 13 => fun v _ => v = .agg #[.int .i64 2, .int .i64 4, .int .i64 0, .string { data := #[] }, .string { data := #[43] }]
  | 14 => fun v _ => v = .bool true
  | 15 => fun v _ => v = .bool true
  | 16 => fun v _ => v = .bool true
  | 17 => fun v _ => v = .agg #[.int .i64 0, .int .i64 3, .string oS, .int .i64 0, .int .i64 0, .slice none 0 0, .slice none 0 0, .pointer none]
  | 18 => fun v _ => v = .agg #[.int .i64 0, .int .i64 3, .string oS, .int .i64 0, .int .i64 0, .slice none 0 0, .slice none 0 0, .pointer none]
  | 19 => SlP (atomR 3 oS) (atomR 3 oS)
  | 20 => fun v _ => v = .agg #[.int .i64 2, .int .i64 3, .int .i64 0, .string { data := #[] }, .string { data := #[] }]
  | 21 => fun v _ => v = .bool false
  | 22 => fun v _ => v = .bool true
  | 23 => fun v _ => v = .bool true
  | _ => fun _ _ => True
theorem wksm (A : Option Addr) (c Bo : Nat) (jx : Nat) (v : Value) (w w' : World) (hb : Below w.heap.size w w') (h : wks A c Bo jx v w) : wks A c Bo jx v w' := by
  unfold wks at h ⊢
  split at h
  all_goals first | exact h | exact SlP.mono hb h | trivial
theorem twoRes_at : ∀ r, r ∈ twoRes → AtR r := fun r hr => by
  simp only [twoRes, List.mem_cons, List.not_mem_nil, or_false] at hr
  rcases hr with rfl | rfl <;> exact ⟨rfl, rfl, rfl⟩
set_option maxRecDepth 100000 in
set_option maxHeartbeats 8000000 in
theorem works_any (w : World) (ht : Tabs w) : Calls Tryz.prog 7 #[] w fun e w' => e = .returned (.bool true) ∧ Below w.heap.size w w' := by
  have HT := Lib.hid ht
  clear ht
  go_enter Tryz.func7, Tryz.ntmps7
  go_wp2_with fail
  refine (trees_any _).mono ?_
  rintro e w1 ⟨X, Y, rfl, hT, _, _, hb⟩
  have T1 := Lib.hid hT
  have HB1 := Lib.hid hb
  clear hT hb
  go_wp2_with fail
  refine (at_any _ _).mono ?_
  rintro e w2 ⟨rfl, hb⟩
  have T2 := Lib.hid (T1.out.below hb)
  have HB2 := Lib.hid (HB1.out.trans (hb.mono HB1.out.size))
  clear hb T1 HB1
  go_wp2_with fail
  refine (at_any _ _).mono ?_
  rintro e w3 ⟨rfl, hb⟩
  have T3 := Lib.hid (T2.out.below hb)
  have HB3 := Lib.hid (HB2.out.trans (hb.mono HB2.out.size))
  clear hb T2 HB2
  unfold itV nodeR trV
  simp only
  go_wp2_with fail
  have hL : (w3.alloc (.cells (twoC (nodeR 1) (nodeR 2)) 29)).heap[w3.heap.size]? = some (.cells (twoC (nodeR 1) (nodeR 2)) 29 (0, 0)) := hp_new rfl
  have hba := HB3.out.alloc HB3.out.size (.cells (twoC (nodeR 1) (nodeR 2)) 29)
  refine (Convert_ex X Y w3.heap.size _ (HT.out.below hba) (T3.out.below (box1 _ _ _)) hL).mono ?_
  rintro e w4 ⟨v, rfl, hrd, hb⟩
  have HR := Lib.hid hrd
  have HB4 := Lib.hid (hba.trans (hb.mono hba.size))
  obtain ⟨A, c, rfl, _⟩ := hrd.form
  clear hrd hb hba hL T3 HB3
  go_wp2_with fail
  refine (value_any _ _ _).mono ?_
  rintro e w5 ⟨rfl, hb⟩
  have HR5 := Lib.hid (RdRows.below HR.out hb)
  have HB5 := Lib.hid (HB4.out.trans (hb.mono HB4.out.size))
  clear hb HR HB4
  unfold itV atomR
  simp only
  go_wp2_with fail
  have S := Lib.hid (show WkS w (w5.alloc (.cells boxO 29)) w5.heap.size (.slice A 2 c) from ⟨HB5.out.alloc HB5.out.size _, hp_new rfl, RdRows.below HR5.out (box1 _ _ _), HT.out.below (HB5.out.alloc HB5.out.size _)⟩)
  change Code.wp _ _ _ _ (w5.alloc (.cells boxO 29))
  clear HT HR5 HB5
  generalize w5.heap.size = Bo at *
  generalize (w5.alloc (.cells boxO 29)) = W0 at *
  refine wp_region_drawn (by kernel_rfl) 24 38 [14, 15, 16, 17, 18, 19, 20, 21, 22, 23, 24, 25, 26, 27, 28, 29, 30, 31, 32, 33, 34, 35, 36, 37] (wks A c Bo) rfl (by kernel_rfl) (wksm _ _ _) ?_ ?_
  · intro i o hi ho ys W hys hb hdep
    obtain ⟨y0, y1, y2, y3, y4, y5, y6, y7, y8, y9, y10, y11, y12, y13, y14, y15, y16, y17, y18, y19, y20, y21, y22, y23, rfl⟩ := list24w hys
    have hi' : i = 0 ∨ i = 1 ∨ i = 2 ∨ i = 3 ∨ i = 4 ∨ i = 5 ∨ i = 6 ∨ i = 7 ∨ i = 8 ∨ i = 9 ∨ i = 10 ∨ i = 11 ∨ i = 12 ∨ i = 13 ∨ i = 14 ∨ i = 15 ∨ i = 16 ∨ i = 17 ∨ i = 18 ∨ i = 19 ∨ i = 20 ∨ i = 21 ∨ i = 22 ∨ i = 23 := by omega
    simp only [setM, List.setIfInBounds_toArray, List.set_cons_zero, List.set_cons_succ]
    rcases hi' with rfl | rfl | rfl | rfl | rfl | rfl | rfl | rfl | rfl | rfl | rfl | rfl | rfl | rfl | rfl | rfl | rfl | rfl | rfl | rfl | rfl | rfl | rfl | rfl
    · cases ho
      go_wp2
      exact ⟨rfl, _, rfl, Below.refl _ _, rfl⟩
    · cases ho
      obtain rfl : y0 = .int .i64 0 := hdep 0 (by omega) (by kernel_rfl)
      go_wp2
      exact ⟨rfl, _, rfl, Below.refl _ _, rfl⟩
    · cases ho
      obtain rfl : y1 = .bool true := hdep 1 (by omega) (by kernel_rfl)
      go_wp2
      exact ⟨rfl, _, rfl, Below.refl _ _, rfl⟩
    · cases ho
      obtain rfl : y2 = .bool true := hdep 2 (by omega) (by kernel_rfl)
      go_wp2
      exact ⟨rfl, _, rfl, Below.refl _ _, rfl⟩
    · cases ho
      obtain rfl : y2 = .bool true := hdep 2 (by omega) (by kernel_rfl)
      go_wp2_with fail
      refine (value_any 3 wS _).mono ?_
      rintro e w1 ⟨rfl, hb1⟩
      unfold itV atomR
      go_wp2
      exact ⟨rfl, _, rfl, hb1, rfl⟩
    · cases ho
      obtain rfl : y2 = .bool true := hdep 2 (by omega) (by kernel_rfl)
      obtain ⟨d0, d1, d2, d3, d4, d5, d6, d7⟩ := blk8c (S.out.go hb).o
      go_wp2
      exact ⟨rfl, _, rfl, Below.refl _ _, rfl⟩
    · cases ho
      obtain rfl : y4 = .agg #[.int .i64 0, .int .i64 3, .string wS, .int .i64 0, .int .i64 0, .slice none 0 0, .slice none 0 0, .pointer none] := hdep 4 (by omega) (by kernel_rfl)
      obtain rfl : y5 = .agg #[.int .i64 0, .int .i64 3, .string oS, .int .i64 0, .int .i64 0, .slice none 0 0, .slice none 0 0, .pointer none] := hdep 5 (by omega) (by kernel_rfl)
      obtain rfl : y2 = .bool true := hdep 2 (by omega) (by kernel_rfl)
      go_wp2
      exact ⟨rfl, _, rfl, box1 _ _ _, _, rfl, hp_new rfl⟩
    · cases ho
      obtain rfl : y3 = .slice A 2 c := hdep 3 (by omega) (by kernel_rfl)
      obtain rfl : y2 = .bool true := hdep 2 (by omega) (by kernel_rfl)
      obtain ⟨B6, rfl, hB6⟩ : SlP (atomR 3 wS) (atomR 3 oS) y6 W := hdep 6 (by omega) (by kernel_rfl)
      go_wp2_with fail
      refine (Same_any twoRes _ _ _ (S.out.go hb).r (two_rd hB6) (by simp [twoRes]) twoRes_at).mono ?_
      rintro e w1 ⟨rfl, hb1⟩
      go_wp2
      exact ⟨rfl, _, rfl, hb1, rfl⟩
    · cases ho
      obtain rfl : y2 = .bool true := hdep 2 (by omega) (by kernel_rfl)
      obtain rfl : y7 = .bool true := hdep 7 (by omega) (by kernel_rfl)
      go_wp2
      exact ⟨rfl, _, rfl, Below.refl _ _, rfl⟩
    · cases ho
      obtain rfl : y8 = .bool true := hdep 8 (by omega) (by kernel_rfl)
      go_wp2
      exact ⟨rfl, _, rfl, Below.refl _ _, rfl⟩
    · cases ho
      obtain rfl : y9 = .bool true := hdep 9 (by omega) (by kernel_rfl)
      obtain ⟨d0, d1, d2, d3, d4, d5, d6, d7⟩ := blk8c (S.out.go hb).o
      go_wp2
      exact ⟨rfl, _, rfl, Below.refl _ _, rfl⟩
    · cases ho
      obtain rfl : y9 = .bool true := hdep 9 (by omega) (by kernel_rfl)
      obtain ⟨d0, d1, d2, d3, d4, d5, d6, d7⟩ := blk8c (S.out.go hb).o
      go_wp2
      exact ⟨rfl, _, rfl, Below.refl _ _, rfl⟩
    · cases ho
      obtain rfl : y10 = .agg #[.int .i64 0, .int .i64 3, .string oS, .int .i64 0, .int .i64 0, .slice none 0 0, .slice none 0 0, .pointer none] := hdep 10 (by omega) (by kernel_rfl)
      obtain rfl : y11 = .agg #[.int .i64 0, .int .i64 3, .string oS, .int .i64 0, .int .i64 0, .slice none 0 0, .slice none 0 0, .pointer none] := hdep 11 (by omega) (by kernel_rfl)
      obtain rfl : y9 = .bool true := hdep 9 (by omega) (by kernel_rfl)
      go_wp2
      exact ⟨rfl, _, rfl, box1 _ _ _, _, rfl, hp_new rfl⟩
    · cases ho
      obtain rfl : y9 = .bool true := hdep 9 (by omega) (by kernel_rfl)
      go_wp2
      exact ⟨rfl, _, rfl, Below.refl _ _, rfl⟩
    · cases ho
      obtain rfl : y13 = .agg #[.int .i64 2, .int .i64 4, .int .i64 0, .string { data := #[] }, .string { data := #[43] }] := hdep 13 (by omega) (by kernel_rfl)
      obtain rfl : y9 = .bool true := hdep 9 (by omega) (by kernel_rfl)
      obtain ⟨B12, rfl, hB12⟩ : SlP (atomR 3 oS) (atomR 3 oS) y12 W := hdep 12 (by omega) (by kernel_rfl)
      go_wp2_with fail
      refine (Match_ex 4 (.inr rfl) { data := #[43] } true (.inr (.inl ⟨rfl, rfl⟩)) typeB_plus B12 _ (S.out.go hb).t hB12).mono ?_
      rintro e w1 ⟨rfl, hb1⟩
      go_wp2
      exact ⟨rfl, _, rfl, hb1, rfl⟩
    · cases ho
      obtain rfl : y9 = .bool true := hdep 9 (by omega) (by kernel_rfl)
      obtain rfl : y14 = .bool true := hdep 14 (by omega) (by kernel_rfl)
      go_wp2
      exact ⟨rfl, _, rfl, Below.refl _ _, rfl⟩
    · cases ho
      obtain rfl : y15 = .bool true := hdep 15 (by omega) (by kernel_rfl)
      go_wp2
      exact ⟨rfl, _, rfl, Below.refl _ _, rfl⟩
    · cases ho
      obtain rfl : y16 = .bool true := hdep 16 (by omega) (by kernel_rfl)
      obtain ⟨d0, d1, d2, d3, d4, d5, d6, d7⟩ := blk8c (S.out.go hb).o
      go_wp2
      exact ⟨rfl, _, rfl, Below.refl _ _, rfl⟩
    · cases ho
      obtain rfl : y16 = .bool true := hdep 16 (by omega) (by kernel_rfl)
      obtain ⟨d0, d1, d2, d3, d4, d5, d6, d7⟩ := blk8c (S.out.go hb).o
      go_wp2
      exact ⟨rfl, _, rfl, Below.refl _ _, rfl⟩
    · cases ho
      obtain rfl : y17 = .agg #[.int .i64 0, .int .i64 3, .string oS, .int .i64 0, .int .i64 0, .slice none 0 0, .slice none 0 0, .pointer none] := hdep 17 (by omega) (by kernel_rfl)
      obtain rfl : y18 = .agg #[.int .i64 0, .int .i64 3, .string oS, .int .i64 0, .int .i64 0, .slice none 0 0, .slice none 0 0, .pointer none] := hdep 18 (by omega) (by kernel_rfl)
      obtain rfl : y16 = .bool true := hdep 16 (by omega) (by kernel_rfl)
      go_wp2
      exact ⟨rfl, _, rfl, box1 _ _ _, _, rfl, hp_new rfl⟩
    · cases ho
      obtain rfl : y16 = .bool true := hdep 16 (by omega) (by kernel_rfl)
      go_wp2
      exact ⟨rfl, _, rfl, Below.refl _ _, rfl⟩
    · cases ho
      obtain rfl : y20 = .agg #[.int .i64 2, .int .i64 3, .int .i64 0, .string { data := #[] }, .string { data := #[] }] := hdep 20 (by omega) (by kernel_rfl)
      obtain rfl : y16 = .bool true := hdep 16 (by omega) (by kernel_rfl)
      obtain ⟨B19, rfl, hB19⟩ : SlP (atomR 3 oS) (atomR 3 oS) y19 W := hdep 19 (by omega) (by kernel_rfl)
      go_wp2_with fail
      refine (Match_ex 3 (.inl rfl) nS false (.inr (.inr ⟨rfl, rfl⟩)) typeB_one B19 _ (S.out.go hb).t hB19).mono ?_
      rintro e w1 ⟨rfl, hb1⟩
      go_wp2
      exact ⟨rfl, _, rfl, hb1, rfl⟩
    · cases ho
      obtain rfl : y21 = .bool false := hdep 21 (by omega) (by kernel_rfl)
      obtain rfl : y16 = .bool true := hdep 16 (by omega) (by kernel_rfl)
      go_wp2
      exact ⟨rfl, _, rfl, Below.refl _ _, rfl⟩
    · cases ho
      obtain rfl : y16 = .bool true := hdep 16 (by omega) (by kernel_rfl)
      obtain rfl : y22 = .bool true := hdep 22 (by omega) (by kernel_rfl)
      go_wp2
      exact ⟨rfl, _, rfl, Below.refl _ _, rfl⟩
  · intro ys W hys hb hall
    obtain ⟨y0, y1, y2, y3, y4, y5, y6, y7, y8, y9, y10, y11, y12, y13, y14, y15, y16, y17, y18, y19, y20, y21, y22, y23, rfl⟩ := list24w hys
    simp only [setM, List.setIfInBounds_toArray, List.set_cons_zero, List.set_cons_succ]
    obtain rfl : y23 = .bool true := hall 23 (by omega)
    clear hall
    simp only [List.drop_succ_cons, List.drop_zero]
    have HB := Lib.hid (S.out.b.trans (hb.mono S.out.b.size))
    clear hb
    go_wp2
    go_ret
    exact ⟨rfl, HB.out⟩
end Go.Proofs.YtajkdllakleakaaGreatDoor
/- The law 'chisellaw16.TypesOrder': it is true for every three types. -/
namespace Go.Proofs.YtajkdllakleakaaGreatDoor
open Go.RowKit
set_option linter.unusedVariables false
set_option linter.unusedSimpArgs false

/-- The three boxes. -/
structure OrS (w W : World) (A B C : Array Value) : Prop where
  b : Below w.heap.size w W
  x : W.heap[w.heap.size]? = some (.cells A 37 (0, 0))
  y : W.heap[w.heap.size + 1]? = some (.cells B 37 (0, 0))
  z : W.heap[w.heap.size + 2]? = some (.cells C 37 (0, 0))
theorem OrS.go {w W W' : World} {A B C : Array Value} (h : OrS w W A B C) (hb : Below W.heap.size W W') : OrS w W' A B C := by
  have l0 := (Array.getElem?_eq_some_iff.1 h.x).1
  have l1 := (Array.getElem?_eq_some_iff.1 h.y).1
  have l2 := (Array.getElem?_eq_some_iff.1 h.z).1
  exact ⟨h.b.trans (hb.mono h.b.size), (hb.block _ l0).trans h.x, (hb.block _ l1).trans h.y, (hb.block _ l2).trans h.z⟩
theorem OrS.new (w : World) (A B C : Array Value) : OrS w (((w.alloc (.cells A 37)).alloc (.cells B 37)).alloc (.cells C 37)) A B C := by
  refine ⟨?_, ?_, ?_, ?_⟩
  · exact (bel2 w A B 37 37).trans ((box1 _ 37 C).mono (by simp <;> omega))
  · exact hp_past (hp_past (hp_new rfl))
  · exact hp_past (hp_new (by simp))
  · exact hp_new (by simp)
/-- What a call of Sub leaves. -/
def SbP (b : Bool) (W : World) (e : Ending) (w' : World) : Prop := e = .returned (.bool b) ∧ Below W.heap.size W w'
theorem subB_self (V : TyP → Bool) (t : TyP) : subB V t t = V t := by
  cases h : V t with
  | true => exact sub_refl V t h
  | false => simp [subB, h]
theorem subB_bad (V : TyP → Bool) (t u : TyP) (h : V t = false) : subB V t u = false ∧ subB V u t = false := by
  simp [subB, h]
theorem wrap_three (a b c : Nat) (h : a + b + c ≤ 4000000) : IntKind.i64.wrap (IntKind.i64.wrap ((a : Int) + (b : Int)) + (c : Int)) = ((a + b + c : Nat) : Int) := by
  have e1 : IntKind.i64.wrap ((a : Int) + (b : Int)) = (a : Int) + b := by rw [IntKind.wrap_i64]; omega
  rw [e1, IntKind.wrap_i64]
  omega
set_option maxRecDepth 100000 in
set_option maxHeartbeats 4000000 in
theorem order_any (t u v : TyP) (w : World) (ht : Tabs w) (hz : t.nm.size + u.nm.size + v.nm.size ≤ 4000000) : Calls Tryz.prog 4 #[tyV t, tyV u, tyV v] w fun e w' => e = .returned (.bool true) ∧ Below w.heap.size w w' := by
  have HW : Hid (∀ W, Below w.heap.size w W → Calls Tryz.prog 7 #[] W (SbP true W)) := Lib.hid fun W hW => works_any W (ht.below hW)
  by_cases hs : t.nm.size + u.nm.size + v.nm.size ≤ 300
  · have HP : Hid (∀ W, Below w.heap.size w W → Calls Tryz.prog 8 #[tyV t] W (PrtP (typeB t) W)) := Lib.hid fun W hW => printType_any t W (ht.below hW) (by omega)
    have HC : Hid (∀ W, Below w.heap.size w W → Calls Tryz.prog 9 #[tyV t] W (ChkP (typeB t) W)) := Lib.hid fun W hW => check_any t W (ht.below hW) (by omega)
    have HTT : Hid (∀ W, Below w.heap.size w W → Calls Tryz.prog 10 #[tyV t, tyV t] W (SbP (typeB t) W)) := Lib.hid fun W hW => by
      have := sub_any t t W (ht.below hW) (by omega) (by omega)
      rw [subB_self] at this
      exact this
    have HTU : Hid (∀ W, Below w.heap.size w W → Calls Tryz.prog 10 #[tyV t, tyV u] W (SbP (subB typeB t u) W)) := Lib.hid fun W hW => sub_any t u W (ht.below hW) (by omega) (by omega)
    have HUT : Hid (∀ W, Below w.heap.size w W → Calls Tryz.prog 10 #[tyV u, tyV t] W (SbP (subB typeB u t) W)) := Lib.hid fun W hW => sub_any u t W (ht.below hW) (by omega) (by omega)
    have HUV : Hid (∀ W, Below w.heap.size w W → Calls Tryz.prog 10 #[tyV u, tyV v] W (SbP (subB typeB u v) W)) := Lib.hid fun W hW => sub_any u v W (ht.below hW) (by omega) (by omega)
    have HTV : Hid (∀ W, Below w.heap.size w W → Calls Tryz.prog 10 #[tyV t, tyV v] W (SbP (subB typeB t v) W)) := Lib.hid fun W hW => sub_any t v W (ht.below hW) (by omega) (by omega)
    have HB : Hid (typeB t = false → subB typeB t u = false ∧ subB typeB u t = false) := Lib.hid (subB_bad typeB t u)
    have HR : Hid (subB typeB t u = true → subB typeB u v = true → subB typeB t v = true) := Lib.hid fun h1 h2 => sub_trans typeB h1 h2
    clear ht hz
    generalize typeB t = vt at *
    generalize subB typeB t u = tu at *
    generalize subB typeB u t = ut at *
    generalize subB typeB u v = uv at *
    generalize subB typeB t v = tv at *
    obtain ⟨k, a, tk, nm, oc⟩ := t
    obtain ⟨k', a', tk', nm', oc'⟩ := u
    obtain ⟨k'', a'', tk'', nm'', oc''⟩ := v
    unfold tyV PrtP ChkP SbP at *
    simp only at HW HP HC HTT HTU HUT HUV HTV hs ⊢
    have hwr := wrap_three nm.size nm'.size nm''.size (by omega)
    go_enter Tryz.func4, Tryz.ntmps4
    have HN := Lib.hid (OrS.new w #[.int .i64 k, .int .i64 a, .int .i64 tk, .string nm, .string oc] #[.int .i64 k', .int .i64 a', .int .i64 tk', .string nm', .string oc'] #[.int .i64 k'', .int .i64 a'', .int .i64 tk'', .string nm'', .string oc''])
    go_wp2_with fail
    refine (HP.out _ HN.out.b).mono ?_
    rintro e w1 ⟨⟨s0, rfl⟩, hb⟩
    have S1 := Lib.hid (HN.out.go (hb.mono (Nat.le_refl _)))
    clear hb HN HP
    cases vt with
    | false =>
      obtain ⟨rfl, rfl⟩ := HB.out rfl
      obtain ⟨a0, a1, a2, a3, a4⟩ := cells5 S1.out.x
      obtain ⟨b0, b1, b2, b3, b4⟩ := cells5 S1.out.y
      obtain ⟨c0, c1, c2, c3, c4⟩ := cells5 S1.out.z
      go_wp2_with fail
      refine (HC.out _ S1.out.b).mono ?_
      rintro e w2 ⟨rfl, hb⟩
      have S2 := Lib.hid (S1.out.go (hb.mono (Nat.le_refl _)))
      clear hb S1 a0 a1 a2 a3 a4 b0 b1 b2 b3 b4 c0 c1 c2 c3 c4
      obtain ⟨a0, a1, a2, a3, a4⟩ := cells5 S2.out.x
      obtain ⟨b0, b1, b2, b3, b4⟩ := cells5 S2.out.y
      obtain ⟨c0, c1, c2, c3, c4⟩ := cells5 S2.out.z
      go_wp2_with fail
      refine (HTT.out _ S2.out.b).mono ?_
      rintro e w3 ⟨rfl, hb⟩
      have S3 := Lib.hid (S2.out.go (hb.mono (Nat.le_refl _)))
      clear hb S2 a0 a1 a2 a3 a4 b0 b1 b2 b3 b4 c0 c1 c2 c3 c4
      obtain ⟨a0, a1, a2, a3, a4⟩ := cells5 S3.out.x
      obtain ⟨b0, b1, b2, b3, b4⟩ := cells5 S3.out.y
      obtain ⟨c0, c1, c2, c3, c4⟩ := cells5 S3.out.z
      go_wp2_with fail
      refine (HTU.out _ S3.out.b).mono ?_
      rintro e w4 ⟨rfl, hb⟩
      have S4 := Lib.hid (S3.out.go (hb.mono (Nat.le_refl _)))
      clear hb S3 a0 a1 a2 a3 a4 b0 b1 b2 b3 b4 c0 c1 c2 c3 c4
      obtain ⟨a0, a1, a2, a3, a4⟩ := cells5 S4.out.x
      obtain ⟨b0, b1, b2, b3, b4⟩ := cells5 S4.out.y
      obtain ⟨c0, c1, c2, c3, c4⟩ := cells5 S4.out.z
      go_wp2_with fail
      refine (HUT.out _ S4.out.b).mono ?_
      rintro e w5 ⟨rfl, hb⟩
      have S5 := Lib.hid (S4.out.go (hb.mono (Nat.le_refl _)))
      clear hb S4 a0 a1 a2 a3 a4 b0 b1 b2 b3 b4 c0 c1 c2 c3 c4
      obtain ⟨a0, a1, a2, a3, a4⟩ := cells5 S5.out.x
      obtain ⟨b0, b1, b2, b3, b4⟩ := cells5 S5.out.y
      obtain ⟨c0, c1, c2, c3, c4⟩ := cells5 S5.out.z
      go_wp2_with fail
      refine (HTU.out _ S5.out.b).mono ?_
      rintro e w6 ⟨rfl, hb⟩
      have S6 := Lib.hid (S5.out.go (hb.mono (Nat.le_refl _)))
      clear hb S5 a0 a1 a2 a3 a4 b0 b1 b2 b3 b4 c0 c1 c2 c3 c4
      obtain ⟨a0, a1, a2, a3, a4⟩ := cells5 S6.out.x
      obtain ⟨b0, b1, b2, b3, b4⟩ := cells5 S6.out.y
      obtain ⟨c0, c1, c2, c3, c4⟩ := cells5 S6.out.z
      go_wp2_with fail
      refine (HW.out _ S6.out.b).mono ?_
      rintro e w7 ⟨rfl, hb⟩
      have S7 := Lib.hid (S6.out.go (hb.mono (Nat.le_refl _)))
      clear hb S6 a0 a1 a2 a3 a4 b0 b1 b2 b3 b4 c0 c1 c2 c3 c4
      go_wp2
      all_goals go_ret
      all_goals exact ⟨rB (by simp), S7.out.b⟩
    | true =>
      obtain ⟨a0, a1, a2, a3, a4⟩ := cells5 S1.out.x
      obtain ⟨b0, b1, b2, b3, b4⟩ := cells5 S1.out.y
      obtain ⟨c0, c1, c2, c3, c4⟩ := cells5 S1.out.z
      go_wp2_with fail
      refine (HC.out _ S1.out.b).mono ?_
      rintro e w2 ⟨rfl, hb⟩
      have S2 := Lib.hid (S1.out.go (hb.mono (Nat.le_refl _)))
      clear hb S1 a0 a1 a2 a3 a4 b0 b1 b2 b3 b4 c0 c1 c2 c3 c4
      obtain ⟨a0, a1, a2, a3, a4⟩ := cells5 S2.out.x
      obtain ⟨b0, b1, b2, b3, b4⟩ := cells5 S2.out.y
      obtain ⟨c0, c1, c2, c3, c4⟩ := cells5 S2.out.z
      go_wp2_with fail
      refine (HTT.out _ S2.out.b).mono ?_
      rintro e w3 ⟨rfl, hb⟩
      have S3 := Lib.hid (S2.out.go (hb.mono (Nat.le_refl _)))
      clear hb S2 a0 a1 a2 a3 a4 b0 b1 b2 b3 b4 c0 c1 c2 c3 c4
      obtain ⟨a0, a1, a2, a3, a4⟩ := cells5 S3.out.x
      obtain ⟨b0, b1, b2, b3, b4⟩ := cells5 S3.out.y
      obtain ⟨c0, c1, c2, c3, c4⟩ := cells5 S3.out.z
      go_wp2_with fail
      refine (HTU.out _ S3.out.b).mono ?_
      rintro e w4 ⟨rfl, hb⟩
      have S4 := Lib.hid (S3.out.go (hb.mono (Nat.le_refl _)))
      clear hb S3 a0 a1 a2 a3 a4 b0 b1 b2 b3 b4 c0 c1 c2 c3 c4
      cases tu with
      | false =>
        obtain ⟨a0, a1, a2, a3, a4⟩ := cells5 S4.out.x
        obtain ⟨b0, b1, b2, b3, b4⟩ := cells5 S4.out.y
        obtain ⟨c0, c1, c2, c3, c4⟩ := cells5 S4.out.z
        go_wp2_with fail
        refine (HW.out _ S4.out.b).mono ?_
        rintro e w5 ⟨rfl, hb⟩
        have S5 := Lib.hid (S4.out.go (hb.mono (Nat.le_refl _)))
        clear hb S4 a0 a1 a2 a3 a4 b0 b1 b2 b3 b4 c0 c1 c2 c3 c4
        go_wp2
        all_goals go_ret
        all_goals exact ⟨rB (by simp), S5.out.b⟩
      | true =>
        obtain ⟨a0, a1, a2, a3, a4⟩ := cells5 S4.out.x
        obtain ⟨b0, b1, b2, b3, b4⟩ := cells5 S4.out.y
        obtain ⟨c0, c1, c2, c3, c4⟩ := cells5 S4.out.z
        go_wp2_with fail
        refine (HUV.out _ S4.out.b).mono ?_
        rintro e w5 ⟨rfl, hb⟩
        have S5 := Lib.hid (S4.out.go (hb.mono (Nat.le_refl _)))
        clear hb S4 a0 a1 a2 a3 a4 b0 b1 b2 b3 b4 c0 c1 c2 c3 c4
        cases uv with
        | false =>
          obtain ⟨a0, a1, a2, a3, a4⟩ := cells5 S5.out.x
          obtain ⟨b0, b1, b2, b3, b4⟩ := cells5 S5.out.y
          obtain ⟨c0, c1, c2, c3, c4⟩ := cells5 S5.out.z
          go_wp2_with fail
          refine (HW.out _ S5.out.b).mono ?_
          rintro e w6 ⟨rfl, hb⟩
          have S6 := Lib.hid (S5.out.go (hb.mono (Nat.le_refl _)))
          clear hb S5 a0 a1 a2 a3 a4 b0 b1 b2 b3 b4 c0 c1 c2 c3 c4
          go_wp2
          all_goals go_ret
          all_goals exact ⟨rB (by simp), S6.out.b⟩
        | true =>
          obtain rfl := HR.out (by trivial) (by trivial)
          obtain ⟨a0, a1, a2, a3, a4⟩ := cells5 S5.out.x
          obtain ⟨b0, b1, b2, b3, b4⟩ := cells5 S5.out.y
          obtain ⟨c0, c1, c2, c3, c4⟩ := cells5 S5.out.z
          go_wp2_with fail
          refine (HTV.out _ S5.out.b).mono ?_
          rintro e w6 ⟨rfl, hb⟩
          have S6 := Lib.hid (S5.out.go (hb.mono (Nat.le_refl _)))
          clear hb S5 a0 a1 a2 a3 a4 b0 b1 b2 b3 b4 c0 c1 c2 c3 c4
          obtain ⟨a0, a1, a2, a3, a4⟩ := cells5 S6.out.x
          obtain ⟨b0, b1, b2, b3, b4⟩ := cells5 S6.out.y
          obtain ⟨c0, c1, c2, c3, c4⟩ := cells5 S6.out.z
          go_wp2_with fail
          refine (HW.out _ S6.out.b).mono ?_
          rintro e w7 ⟨rfl, hb⟩
          have S7 := Lib.hid (S6.out.go (hb.mono (Nat.le_refl _)))
          clear hb S6 a0 a1 a2 a3 a4 b0 b1 b2 b3 b4 c0 c1 c2 c3 c4
          go_wp2
          all_goals go_ret
          all_goals exact ⟨rB (by simp), S7.out.b⟩
  · obtain ⟨k, a, tk, nm, oc⟩ := t
    obtain ⟨k', a', tk', nm', oc'⟩ := u
    obtain ⟨k'', a'', tk'', nm'', oc''⟩ := v
    clear ht
    unfold tyV SbP at *
    simp only at HW hs hz ⊢
    have hwr := wrap_three nm.size nm'.size nm''.size (by omega)
    go_enter Tryz.func4, Tryz.ntmps4
    have HN := Lib.hid (OrS.new w #[.int .i64 k, .int .i64 a, .int .i64 tk, .string nm, .string oc] #[.int .i64 k', .int .i64 a', .int .i64 tk', .string nm', .string oc'] #[.int .i64 k'', .int .i64 a'', .int .i64 tk'', .string nm'', .string oc''])
    go_wp2_with fail
    refine (HW.out _ HN.out.b).mono ?_
    rintro e w1 ⟨rfl, hb⟩
    have S1 := Lib.hid (HN.out.go (hb.mono (Nat.le_refl _)))
    clear hb HN HW
    go_wp2
    all_goals go_ret
    all_goals exact ⟨rB (by simp), S1.out.b⟩
end Go.Proofs.YtajkdllakleakaaGreatDoor
