/- The law MapsKnown: always true (printed by gen_lkc.py). -/
import Derived.Test.YtahidclhplmkiaaGreatDoorMLkb
import Derived.Test.YtahidclhplmkiaaGreatDoorMDt
namespace Go.Proofs.YtahidclhplmkiaaGreatDoor
open Go.RowKit Go.WideMaps
set_option linter.unusedVariables false
set_option linter.unusedSimpArgs false

theorem list12 {l : List Value} (h : l.length = 12) : ∃ y0 y1 y2 y3 y4 y5 y6 y7 y8 y9 y10 y11, l = [y0, y1, y2, y3, y4, y5, y6, y7, y8, y9, y10, y11] := by
  match l, h with
  | y0 :: y1 :: y2 :: y3 :: y4 :: y5 :: y6 :: y7 :: y8 :: y9 :: y10 :: y11 :: [], _ => exact ⟨y0, y1, y2, y3, y4, y5, y6, y7, y8, y9, y10, y11, rfl⟩
theorem list37 {l : List Value} (h : l.length = 37) : ∃ y0 y1 y2 y3 y4 y5 y6 y7 y8 y9 y10 y11 y12 y13 y14 y15 y16 y17 y18 y19 y20 y21 y22 y23 y24 y25 y26 y27 y28 y29 y30 y31 y32 y33 y34 y35 y36, l = [y0, y1, y2, y3, y4, y5, y6, y7, y8, y9, y10, y11, y12, y13, y14, y15, y16, y17, y18, y19, y20, y21, y22, y23, y24, y25, y26, y27, y28, y29, y30, y31, y32, y33, y34, y35, y36] := by
  match l, h with
  | y0 :: y1 :: y2 :: y3 :: y4 :: y5 :: y6 :: y7 :: y8 :: y9 :: y10 :: y11 :: y12 :: y13 :: y14 :: y15 :: y16 :: y17 :: y18 :: y19 :: y20 :: y21 :: y22 :: y23 :: y24 :: y25 :: y26 :: y27 :: y28 :: y29 :: y30 :: y31 :: y32 :: y33 :: y34 :: y35 :: y36 :: [], _ => exact ⟨y0, y1, y2, y3, y4, y5, y6, y7, y8, y9, y10, y11, y12, y13, y14, y15, y16, y17, y18, y19, y20, y21, y22, y23, y24, y25, y26, y27, y28, y29, y30, y31, y32, y33, y34, y35, y36, rfl⟩
theorem list55 {l : List Value} (h : l.length = 55) : ∃ y0 y1 y2 y3 y4 y5 y6 y7 y8 y9 y10 y11 y12 y13 y14 y15 y16 y17 y18 y19 y20 y21 y22 y23 y24 y25 y26 y27 y28 y29 y30 y31 y32 y33 y34 y35 y36 y37 y38 y39 y40 y41 y42 y43 y44 y45 y46 y47 y48 y49 y50 y51 y52 y53 y54, l = [y0, y1, y2, y3, y4, y5, y6, y7, y8, y9, y10, y11, y12, y13, y14, y15, y16, y17, y18, y19, y20, y21, y22, y23, y24, y25, y26, y27, y28, y29, y30, y31, y32, y33, y34, y35, y36, y37, y38, y39, y40, y41, y42, y43, y44, y45, y46, y47, y48, y49, y50, y51, y52, y53, y54] := by
  match l, h with
  | y0 :: y1 :: y2 :: y3 :: y4 :: y5 :: y6 :: y7 :: y8 :: y9 :: y10 :: y11 :: y12 :: y13 :: y14 :: y15 :: y16 :: y17 :: y18 :: y19 :: y20 :: y21 :: y22 :: y23 :: y24 :: y25 :: y26 :: y27 :: y28 :: y29 :: y30 :: y31 :: y32 :: y33 :: y34 :: y35 :: y36 :: y37 :: y38 :: y39 :: y40 :: y41 :: y42 :: y43 :: y44 :: y45 :: y46 :: y47 :: y48 :: y49 :: y50 :: y51 :: y52 :: y53 :: y54 :: [], _ => exact ⟨y0, y1, y2, y3, y4, y5, y6, y7, y8, y9, y10, y11, y12, y13, y14, y15, y16, y17, y18, y19, y20, y21, y22, y23, y24, y25, y26, y27, y28, y29, y30, y31, y32, y33, y34, y35, y36, y37, y38, y39, y40, y41, y42, y43, y44, y45, y46, y47, y48, y49, y50, y51, y52, y53, y54, rfl⟩
/-- A box that holds a value. -/
def AB (W : World) (X : Nat) (k : Int) (s : ByteArray) : Prop := W.heap[X]? = some (.cells #[.int .i64 k, .string s] 26)
theorem AB.go {W W' : World} {X : Nat} {k : Int} {s : ByteArray} (h : AB W X k s) (hb : Below W.heap.size W W') : AB W' X k s := (hb.block X (lt_of_block h)).trans h
theorem AB.put {W : World} {X b : Nat} {k : Int} {s : ByteArray} {r : IRow} (h : AB W X k s) (hz : W.heap[b]? = some zblk) : AB (putB W b r) X k s := by
  refine (setRow_other _ _ _ _ fun e => ?_).trans h
  subst e
  have := hz.symm.trans h
  cases this
theorem BI.put {W : World} {X b : Nat} {r x : IRow} (h : BI W X x) (hx : X < b) : BI (putB W b r) X x := (setRow_other _ _ _ _ (by omega)).trans h
structure K2 (w W : World) (B1 B2 X1 X2 : Nat) (u2 : Value) : Prop where
  b : Below w.heap.size w W
  a1 : AB W B1 4 d1
  x2 : BI W B2 (mapR u2)
  r2 : RdP W (mL X1 X2) u2
  t1 : TX W X1 sx
  t2 : TX W X2 sy
theorem K2.go {w W W' : World} {B1 B2 X1 X2 : Nat} {u2 : Value} (h : K2 w W B1 B2 X1 X2 u2) (hb : Below W.heap.size W W') : K2 w W' B1 B2 X1 X2 u2 := ⟨h.b.trans (hb.mono h.b.size), h.a1.go hb, h.x2.go hb, RdRows.below h.r2 hb, h.t1.go hb, h.t2.go hb⟩
/-- A box with a map. -/
structure KM (W : World) (B : Nat) (l : List PRow) (u : Value) : Prop where
  x : BI W B (mapR u)
  r : RdP W l u
theorem KM.go {W W' : World} {B : Nat} {l : List PRow} {u : Value} (h : KM W B l u) (hb : Below W.heap.size W W') : KM W' B l u := ⟨h.x.go hb, RdRows.below h.r hb⟩
theorem litp_two {W : World} {p q : PRow} : RdP (W.alloc (.cells #[.int .i64 p.ak, .string p.tx, p.v, .int .i64 q.ak, .string q.tx, q.v] 33)) [p, q] (.slice (some ⟨W.heap.size, 0, none⟩) 2 2) :=
  rows_of_own (rows := [p, q].map PRow.cells) (World.ownsRow_lit (base := 0) (e := 33) (size := 3) W #[.int .i64 p.ak, .string p.tx, p.v, .int .i64 q.ak, .string q.tx, q.v] 2 (Nat.zero_le _) (by simp [maxLen]) rfl) rfl (cells3 _) (by simp [maxLen])
/-- The words, the lengths and the texts of the three modes. -/
def hwK : Nat → ByteArray
  | 0 => sFirst
  | 1 => sLast
  | _ => sCombine
def mdK : Nat → List IRow
  | 0 => [tR sb]
  | 1 => [tR sc]
  | _ => [tR sb, tR sc]
def txK : Nat → ByteArray
  | 0 => sb
  | 1 => sc
  | _ => sb
/-- What stands while the three modes are tried. -/
structure K7 (w W : World) (B1 B7 X4 X5 : Nat) (u7 : Value) : Prop where
  b : Below w.heap.size w W
  a1 : AB W B1 4 d1
  n : KM W B7 (nL X4 X5) u7
  t4 : TX W X4 sc
  t5 : TX W X5 sd
theorem K7.go {w W W' : World} {B1 B7 X4 X5 : Nat} {u7 : Value} (h : K7 w W B1 B7 X4 X5 u7) (hb : Below W.heap.size W W') : K7 w W' B1 B7 X4 X5 u7 := ⟨h.b.trans (hb.mono h.b.size), h.a1.go hb, h.n.go hb, h.t4.go hb, h.t5.go hb⟩
structure KL (W : World) (C8 C9 C10 : Nat) : Prop where
  w8 : W.heap[C8]? = some (.cells #[.string { data := #[102, 105, 114, 115, 116] }, .string { data := #[108, 97, 115, 116] }, .string { data := #[99, 111, 109, 98, 105, 110, 101] }] 9)
  w9 : W.heap[C9]? = some (.cells #[.int .i64 1, .int .i64 1, .int .i64 2] 3)
  w10 : W.heap[C10]? = some (.cells #[.string { data := #[98] }, .string { data := #[99] }, .string { data := #[98] }] 9)
theorem KL.go {W W' : World} {C8 C9 C10 : Nat} (h : KL W C8 C9 C10) (hb : Below W.heap.size W W') : KL W' C8 C9 C10 := ⟨(hb.block _ (lt_of_block h.w8)).trans h.w8, (hb.block _ (lt_of_block h.w9)).trans h.w9, (hb.block _ (lt_of_block h.w10)).trans h.w10⟩
theorem KL.at {W : World} {C8 C9 C10 : Nat} (h : KL W C8 C9 C10) (i : Nat) (hi : i < 3) : W.cell? ⟨C8, i, none⟩ = some (.string (hwK i)) ∧ W.cell? ⟨C9, i, none⟩ = some (.int .i64 ((mdK i).length : Int)) ∧ W.cell? ⟨C10, i, none⟩ = some (.string (txK i)) := by
  rw [cell_of_row W C8 i _ _ _ h.w8, cell_of_row W C9 i _ _ _ h.w9, cell_of_row W C10 i _ _ _ h.w10]
  match i, hi with
  | 0, _ => exact ⟨rfl, rfl, rfl⟩
  | 1, _ => exact ⟨rfl, rfl, rfl⟩
  | 2, _ => exact ⟨rfl, rfl, rfl⟩
theorem mergeI (i : Nat) (hi : i < 3) {u1 u2 v : Value} {X1 X2 X3 X4 : Nat} (w : World) (hx : X2 ≠ X3) (hv : RdI w [mapR u1, mapR u2] v) (h1 : RdP w (mapL X1 X2) u1) (h2 : RdP w (nL X3 X4) u2)
    (i1 : TX w X1 sa) (i2 : TX w X2 sb) (i3 : TX w X3 sc) (i4 : TX w X4 sd) : Calls Tryz.prog 7 #[v, .string (hwK i)] w (MtP (mdK i) w) := by
  match i, hi with
  | 0, _ => exact (mergeTwo .first w hx hv h1 h2 i1 i2 i3 i4).mono fun e w' h => mgp_mtp h
  | 1, _ => exact (mergeTwo .last w hx hv h1 h2 i1 i2 i3 i4).mono fun e w' h => mgp_mtp h
  | 2, _ => exact (mergeTwo .combine w hx hv h1 h2 i1 i2 i3 i4).mono fun e w' h => mgp_mtp h
/-- The merged map. -/
def MX (j : Nat) (w : World) (x : Value) : Prop := ∃ A c v1 A2 c2 v3, x = itV (mapR (.slice A 3 c)) ∧ RdP w [⟨3, d1, v1⟩, ⟨3, d2, .slice A2 (mdK j).length c2⟩, ⟨3, d3, v3⟩] (.slice A 3 c) ∧ RdI w (mdK j) (.slice A2 (mdK j).length c2)
theorem MX.go {j : Nat} {w w' : World} {x : Value} (h : MX j w x) (hb : Below w.heap.size w w') : MX j w' x := by
  obtain ⟨A, c, v1, A2, c2, v3, e, h1, h2⟩ := h
  exact ⟨A, c, v1, A2, c2, v3, e, RdRows.below h1 hb, RdRows.below h2 hb⟩
theorem mdK_cons (j : Nat) : ∃ s l, mdK j = tR s :: l ∧ s = txK j := by
  match j with
  | 0 => exact ⟨_, _, rfl, rfl⟩
  | 1 => exact ⟨_, _, rfl, rfl⟩
  | k + 2 => exact ⟨_, _, rfl, rfl⟩
theorem MX.put {j : Nat} {w : World} {x : Value} {b : Nat} {r : IRow} (h : MX j w x) (hz : w.heap[b]? = some zblk) : MX j (putB w b r) x := by
  obtain ⟨A, c, v1, A2, c2, v3, e, h1, h2⟩ := h
  refine ⟨A, c, v1, A2, c2, v3, e, putB_rdp h1 (show (3 : Int) ≠ 0 by decide) hz, ?_⟩
  obtain ⟨s, l, he, _⟩ := mdK_cons j
  rw [he] at h2 ⊢
  exact putB_rdi h2 hz
theorem MX.ok {j : Nat} {w : World} {x : Value} (h : MX j w x) : ∃ r, x = itV r ∧ ROk r := by
  obtain ⟨A, c, v1, A2, c2, v3, e, h1, h2⟩ := h
  exact ⟨_, e, rfl, rfl, rfl⟩
/-- .. in a box. -/
def MB (j : Nat) (w : World) (v : Value) : Prop := ∃ b r, v = .pointer (some ⟨b, 0, none⟩) ∧ BI w b r ∧ MX j w (itV r)
theorem itV_inj {x y : IRow} (h : itV x = itV y) : x = y := by
  obtain ⟨a0, a1, a2, a3, a4, a5, a6, a7⟩ := x
  obtain ⟨b0, b1, b2, b3, b4, b5, b6, b7⟩ := y
  simp only [itV, Value.agg.injEq] at h
  simp at h
  simp only [IRow.mk.injEq]
  exact h
structure K21 (w W : World) (B1 B20 B22 : Nat) (u : Value) : Prop where
  b : Below w.heap.size w W
  a1 : AB W B1 4 d1
  x20 : BI W B20 (mapR nilS)
  m : KM W B22 tL u
theorem K21.go {w W W' : World} {B1 B20 B22 : Nat} {u : Value} (h : K21 w W B1 B20 B22 u) (hb : Below W.heap.size W W') : K21 w W' B1 B20 B22 u := ⟨h.b.trans (hb.mono h.b.size), h.a1.go hb, h.x20.go hb, h.m.go hb⟩
def s5_ : ByteArray := { data := #[53] }
def s6_ : ByteArray := { data := #[54] }
def s7_ : ByteArray := { data := #[55] }
theorem litm_two {W : World} {x y : Value} : RdM (W.alloc (.cells #[x, y] 22)) [x, y] (.slice (some ⟨W.heap.size, 0, none⟩) 2 2) :=
  OwnM.reads (base := 0) (World.ownsRow_lit (base := 0) (e := 22) (size := 1) W #[x, y] 2 (Nat.zero_le _) (by simp [maxLen]) rfl) (by simp [maxLen])
structure K27 (w W : World) (B29 Q Z1 Z2 : Nat) : Prop where
  b : Below w.heap.size w W
  x : BI W B29 (aR (.slice (some ⟨Q, 0, none⟩) 2 2))
  m : RdM W (aL Z1 Z2) (.slice (some ⟨Q, 0, none⟩) 2 2)
  t1 : TX W Z1 s5_
  t2 : TX W Z2 s6_
theorem K27.go {w W W' : World} {B29 Q Z1 Z2 : Nat} (h : K27 w W B29 Q Z1 Z2) (hb : Below W.heap.size W W') : K27 w W' B29 Q Z1 Z2 := ⟨h.b.trans (hb.mono h.b.size), h.x.go hb, RdRows.below h.m hb, h.t1.go hb, h.t2.go hb⟩
def ph2 (B : Nat) : Nat → Value → World → Prop
  | 0 => fun v _ => v = .agg #[.int .i64 4, .string d1]
  | 1 => fun v w => ∃ X, v = sl1 X ∧ TX w X sx
  | 2 => fun v w => ∃ X, v = .agg #[.int .i64 4, .string d1, sl1 X] ∧ TX w X sx
  | 3 => fun v _ => v = .agg #[.int .i64 3, .string d2]
  | 4 => fun v w => ∃ X, v = sl1 X ∧ TX w X sy
  | 5 => fun v w => ∃ X, v = .agg #[.int .i64 3, .string d2, sl1 X] ∧ TX w X sy
  | 6 => fun v w => ∃ X1 X2, RdP w (mL X1 X2) v ∧ TX w X1 sx ∧ TX w X2 sy
  | 7 => fun v w => ∃ u X1 X2, v = itV (mapR u) ∧ RdP w (mL X1 X2) u ∧ TX w X1 sx ∧ TX w X2 sy
  | 8 => NewB B
  | _ => fun _ _ => True
theorem ph2m (B : Nat) (jx : Nat) (v : Value) (w w' : World) (hb : Below w.heap.size w w') (h : ph2 B jx v w) : ph2 B jx v w' := by
  unfold ph2 at h ⊢
  split at h
  all_goals first | exact h | exact NewB.mono hb h | exact (let ⟨X, e, h⟩ := h; ⟨X, e, h.go hb⟩) | exact (let ⟨X1, X2, h, h1, h2⟩ := h; ⟨X1, X2, RdRows.below h hb, h1.go hb, h2.go hb⟩) | exact (let ⟨u, X1, X2, e, h, h1, h2⟩ := h; ⟨u, X1, X2, e, RdRows.below h hb, h1.go hb, h2.go hb⟩) | trivial
def ph3 (B : Nat) (A2 : Option Addr) (c2 X2 : Nat) : Bool → Nat → Value → World → Prop
  | _, 0 => fun v _ => v = itV (mapR (.slice A2 2 c2))
  | _, 1 => fun v _ => v = .agg #[.int .i64 3, .string d1]
  | false, 2 => fun v w => ∃ X, v = sl1 X ∧ TX w X sa
  | true, 2 => fun _ _ => True
  | false, 3 => fun v w => ∃ u X, v = .tuple #[itV (mapR u), .int .i64 0] ∧ RdP w (mapL X X2) u ∧ TX w X sa
  | true, 3 => fun v w => ∃ u X, v = .tuple #[itV (mapR u), .int .i64 0] ∧ RdP w (mapL X X2) u ∧ TX w X sa
  | false, 4 => fun v w => ∃ u X, v = .tuple #[itV (mapR u), .int .i64 0] ∧ RdP w (mapL X X2) u ∧ TX w X sa
  | true, 4 => fun v w => ∃ u X, v = .tuple #[itV (mapR u), .int .i64 0] ∧ RdP w (mapL X X2) u ∧ TX w X sa
  | false, 5 => fun v w => ∃ u X, v = itV (mapR u) ∧ RdP w (mapL X X2) u ∧ TX w X sa
  | true, 5 => fun _ _ => True
  | _, 6 => fun v _ => v = .int .i64 0
  | false, 7 => NewB B
  | true, 7 => fun v w => ∃ b u X, v = .pointer (some ⟨b, 0, none⟩) ∧ BI w b (mapR u) ∧ RdP w (mapL X X2) u ∧ TX w X sa
  | _, _ => fun _ _ => True
theorem ph3m (B : Nat) (A2 : Option Addr) (c2 X2 : Nat) (s : Bool) (jx : Nat) (v : Value) (w w' : World) (hb : Below w.heap.size w w') (h : ph3 B A2 c2 X2 s jx v w) : ph3 B A2 c2 X2 s jx v w' := by
  unfold ph3 at h ⊢
  split at h
  all_goals first | exact h | exact NewB.mono hb h | exact (let ⟨X, e, h⟩ := h; ⟨X, e, h.go hb⟩) | exact (let ⟨u, X, e, h, h1⟩ := h; ⟨u, X, e, RdRows.below h hb, h1.go hb⟩) | exact (let ⟨b, u, X, e, h0, h, h1⟩ := h; ⟨b, u, X, e, h0.go hb, RdRows.below h hb, h1.go hb⟩) | trivial
def ph4 (B : Nat) (A2 : Option Addr) (c2 X1 X2 : Nat) : Bool → Nat → Value → World → Prop
  | _, 0 => fun v _ => v = itV (mapR (.slice A2 2 c2))
  | _, 1 => fun v _ => v = .agg #[.int .i64 3, .string d3]
  | _, 2 => fun v w => ∃ u, v = .tuple #[itV (mapR u), .int .i64 0] ∧ RdP w (mL X1 X2) u
  | _, 3 => fun v w => ∃ u, v = .tuple #[itV (mapR u), .int .i64 0] ∧ RdP w (mL X1 X2) u
  | false, 4 => fun v w => ∃ u, v = itV (mapR u) ∧ RdP w (mL X1 X2) u
  | true, 4 => fun _ _ => True
  | _, 5 => fun v _ => v = .int .i64 0
  | false, 6 => NewB B
  | true, 6 => fun v w => ∃ b u, v = .pointer (some ⟨b, 0, none⟩) ∧ BI w b (mapR u) ∧ RdP w (mL X1 X2) u
  | _, _ => fun _ _ => True
theorem ph4m (B : Nat) (A2 : Option Addr) (c2 X1 X2 : Nat) (s : Bool) (jx : Nat) (v : Value) (w w' : World) (hb : Below w.heap.size w w') (h : ph4 B A2 c2 X1 X2 s jx v w) : ph4 B A2 c2 X1 X2 s jx v w' := by
  unfold ph4 at h ⊢
  split at h
  all_goals first | exact h | exact NewB.mono hb h | exact (let ⟨u, e, h⟩ := h; ⟨u, e, RdRows.below h hb⟩) | exact (let ⟨b, u, e, h0, h⟩ := h; ⟨b, u, e, h0.go hb, RdRows.below h hb⟩) | trivial
def ph5 (B3 bI oI c3 X3 : Nat) (A5 : Option Addr) (c5 : Nat) (A2 : Option Addr) (c2 : Nat) : Nat → Value → World → Prop
  | 0 => fun v _ => v = .int .i64 0
  | 1 => fun v _ => v = .bool false
  | 2 => fun v _ => v = .bool false
  | 3 => fun v _ => v = .int .i64 0
  | 4 => fun v _ => v = .bool false
  | 5 => fun v _ => v = .bool false
  | 6 => fun v _ => v = .bool false
  | 7 => fun v _ => v = .pointer (some ⟨B3, 5, none⟩)
  | 8 => fun v _ => v = .slice (some ⟨bI, oI, none⟩) 2 c3
  | 9 => fun v _ => v = .int .i64 2
  | 10 => fun v _ => v = .bool false
  | 11 => fun v _ => v = .bool false
  | 12 => fun v _ => v = .bool false
  | 13 => fun v _ => v = .pointer (some ⟨B3, 5, none⟩)
  | 14 => fun v _ => v = .slice (some ⟨bI, oI, none⟩) 2 c3
  | 15 => fun v _ => v = .pointer (some ⟨bI, oI, none⟩)
  | 16 => fun v _ => v = .pointer (some ⟨bI, oI, none⟩)
  | 17 => fun v _ => v = .agg #[.int .i64 3, .string d1]
  | 18 => fun v _ => v = .agg #[.int .i64 3, .string d1]
  | 19 => fun v _ => v = .bool false
  | 20 => fun v _ => v = .bool false
  | 21 => fun v _ => v = .bool false
  | 22 => fun v _ => v = .pointer (some ⟨B3, 5, none⟩)
  | 23 => fun v _ => v = .slice (some ⟨bI, oI, none⟩) 2 c3
  | 24 => fun v _ => v = .pointer (some ⟨bI, oI, none⟩)
  | 25 => fun v _ => v = .pointer (some ⟨bI, oI + 2, none⟩)
  | 26 => fun v _ => v = sl1 X3
  | 27 => fun v w => ∃ X, v = sl1 X ∧ TX w X sa
  | 28 => fun v _ => v = .bool true
  | 29 => fun v _ => v = .bool false
  | 30 => fun v _ => v = .bool false
  | 31 => fun v _ => v = .bool false
  | 32 => fun v _ => v = itV (mapR (.slice A5 2 c5))
  | 33 => fun v _ => v = itV (mapR (.slice A2 2 c2))
  | 34 => fun v _ => v = .bool true
  | 35 => fun v _ => v = .bool false
  | 36 => fun v _ => v = .bool false
  | _ => fun _ _ => True
theorem ph5m (B3 bI oI c3 X3 : Nat) (A5 : Option Addr) (c5 : Nat) (A2 : Option Addr) (c2 : Nat) (jx : Nat) (v : Value) (w w' : World) (hb : Below w.heap.size w w') (h : ph5 B3 bI oI c3 X3 A5 c5 A2 c2 jx v w) : ph5 B3 bI oI c3 X3 A5 c5 A2 c2 jx v w' := by
  unfold ph5 at h ⊢
  split at h
  all_goals first | exact h | exact NewB.mono hb h | exact (let ⟨X, e, h⟩ := h; ⟨X, e, h.go hb⟩) | trivial
def ph14 (B C8 j Q7 : Nat) : Bool → Nat → Value → World → Prop
  | false, 0 => fun v w => ∃ u Y1 Y2, v = itV (mapR u) ∧ RdP w (mapL Y1 Y2) u ∧ TX w Y1 sa ∧ TX w Y2 sb ∧ B ≤ Y2
  | true, 0 => fun _ _ => True
  | _, 1 => fun v _ => v = itV (mapR (.slice (some ⟨Q7, 0, none⟩) 2 2))
  | false, 2 => fun v w => ∃ u Y1 Y2, RdI w [mapR u, mapR (.slice (some ⟨Q7, 0, none⟩) 2 2)] v ∧ RdP w (mapL Y1 Y2) u ∧ TX w Y1 sa ∧ TX w Y2 sb ∧ B ≤ Y2
  | true, 2 => fun _ _ => True
  | _, 3 => fun v _ => v = .slice (some ⟨C8, 0, none⟩) 3 3
  | _, 4 => fun v _ => v = .int .i64 (j : Int)
  | _, 5 => fun v _ => v = .pointer (some ⟨C8, j, none⟩)
  | _, 6 => fun v _ => v = .string (hwK j)
  | _, 7 => fun v w => ∃ x, v = .tuple #[x, .int .i64 0] ∧ MX j w x
  | _, 8 => fun v w => ∃ x, v = .tuple #[x, .int .i64 0] ∧ MX j w x
  | false, 9 => fun v w => MX j w v
  | true, 9 => fun _ _ => True
  | _, 10 => fun v _ => v = .int .i64 0
  | false, 11 => NewB B
  | true, 11 => fun v w => MB j w v
  | _, _ => fun _ _ => True
theorem ph14m (B C8 j Q7 : Nat) (s : Bool) (jx : Nat) (v : Value) (w w' : World) (hb : Below w.heap.size w w') (h : ph14 B C8 j Q7 s jx v w) : ph14 B C8 j Q7 s jx v w' := by
  unfold ph14 at h ⊢
  split at h
  all_goals first | exact h | exact NewB.mono hb h | exact (let ⟨u, Y1, Y2, e, h, h1, h2, h3⟩ := h; ⟨u, Y1, Y2, e, RdRows.below h hb, h1.go hb, h2.go hb, h3⟩) | exact (let ⟨u, Y1, Y2, e, h, h1, h2, h3⟩ := h; ⟨u, Y1, Y2, RdRows.below e hb, RdRows.below h hb, h1.go hb, h2.go hb, h3⟩) | exact (let ⟨x, e, h⟩ := h; ⟨x, e, h.go hb⟩) | exact MX.go h hb | exact (let ⟨b, r, e, h1, h2⟩ := h; ⟨b, r, e, h1.go hb, h2.go hb⟩) | trivial
def ph15 (B12 bI oI c12 bM oM mm c2 C9 C10 j : Nat) : Nat → Value → World → Prop
  | 0 => fun v _ => v = .int .i64 0
  | 1 => fun v _ => v = .bool false
  | 2 => fun v _ => v = .bool false
  | 3 => fun v _ => v = .pointer (some ⟨B12, 5, none⟩)
  | 4 => fun v _ => v = .slice (some ⟨bI, oI, none⟩) 3 c12
  | 5 => fun v _ => v = .int .i64 3
  | 6 => fun v _ => v = .bool false
  | 7 => fun v _ => v = .bool false
  | 8 => fun v _ => v = .bool false
  | 9 => fun v _ => v = .pointer (some ⟨B12, 5, none⟩)
  | 10 => fun v _ => v = .slice (some ⟨bI, oI, none⟩) 3 c12
  | 11 => fun v _ => v = .pointer (some ⟨bI, oI + 3, none⟩)
  | 12 => fun v _ => v = .pointer (some ⟨bI, oI + 3, none⟩)
  | 13 => fun v _ => v = .agg #[.int .i64 3, .string d2]
  | 14 => fun v _ => v = .agg #[.int .i64 3, .string d2]
  | 15 => fun v _ => v = .bool false
  | 16 => fun v _ => v = .bool false
  | 17 => fun v _ => v = .bool false
  | 18 => fun v _ => v = .pointer (some ⟨B12, 5, none⟩)
  | 19 => fun v _ => v = .slice (some ⟨bI, oI, none⟩) 3 c12
  | 20 => fun v _ => v = .pointer (some ⟨bI, oI + 3, none⟩)
  | 21 => fun v _ => v = .pointer (some ⟨bI, oI + 3 + 2, none⟩)
  | 22 => fun v _ => v = .slice (some ⟨bM, oM, none⟩) mm c2
  | 23 => fun v _ => v = .int .i64 (mm : Int)
  | 24 => fun v _ => v = .slice (some ⟨C9, 0, none⟩) 3 3
  | 25 => fun v _ => v = .int .i64 (j : Int)
  | 26 => fun v _ => v = .pointer (some ⟨C9, j, none⟩)
  | 27 => fun v _ => v = .int .i64 (mm : Int)
  | 28 => fun v _ => v = .bool false
  | 29 => fun v _ => v = .bool false
  | 30 => fun v _ => v = .bool false
  | 31 => fun v _ => v = .pointer (some ⟨B12, 5, none⟩)
  | 32 => fun v _ => v = .slice (some ⟨bI, oI, none⟩) 3 c12
  | 33 => fun v _ => v = .pointer (some ⟨bI, oI + 3, none⟩)
  | 34 => fun v _ => v = .pointer (some ⟨bI, oI + 3 + 2, none⟩)
  | 35 => fun v _ => v = .slice (some ⟨bM, oM, none⟩) mm c2
  | 36 => fun v _ => v = .pointer (some ⟨bM, oM, none⟩)
  | 37 => fun v _ => v = .pointer (some ⟨bM, oM + 1, none⟩)
  | 38 => fun v _ => v = .pointer (some ⟨bM, oM + 2, none⟩)
  | 39 => fun v _ => v = .string (txK j)
  | 40 => fun v _ => v = .slice (some ⟨C10, 0, none⟩) 3 3
  | 41 => fun v _ => v = .int .i64 (j : Int)
  | 42 => fun v _ => v = .pointer (some ⟨C10, j, none⟩)
  | 43 => fun v _ => v = .string (txK j)
  | 44 => fun v _ => v = .bool false
  | 45 => fun v _ => v = .bool false
  | 46 => fun v _ => v = .bool false
  | 47 => fun v _ => v = .pointer (some ⟨B12, 5, none⟩)
  | 48 => fun v _ => v = .slice (some ⟨bI, oI, none⟩) 3 c12
  | 49 => fun v _ => v = .pointer (some ⟨bI, oI + 6, none⟩)
  | 50 => fun v _ => v = .pointer (some ⟨bI, oI + 6, none⟩)
  | 51 => fun v _ => v = .agg #[.int .i64 3, .string d3]
  | 52 => fun v _ => v = .agg #[.int .i64 3, .string d3]
  | 53 => fun v _ => v = .bool false
  | 54 => fun v _ => v = .bool false
  | _ => fun _ _ => True
theorem ph15m (B12 bI oI c12 bM oM mm c2 C9 C10 j : Nat) (jx : Nat) (v : Value) (w w' : World) (hb : Below w.heap.size w w') (h : ph15 B12 bI oI c12 bM oM mm c2 C9 C10 j jx v w) : ph15 B12 bI oI c12 bM oM mm c2 C9 C10 j jx v w' := by
  unfold ph15 at h ⊢
  split at h
  all_goals first | exact h | exact NewB.mono hb h | trivial
def ph17 (B Q7 : Nat) : Bool → Nat → Value → World → Prop
  | false, 0 => fun v w => ∃ u Y1 Y2, v = itV (mapR u) ∧ RdP w (mapL Y1 Y2) u ∧ TX w Y1 sa ∧ TX w Y2 sb ∧ B ≤ Y2
  | true, 0 => fun _ _ => True
  | _, 1 => fun v _ => v = itV (mapR (.slice (some ⟨Q7, 0, none⟩) 2 2))
  | false, 2 => fun v w => ∃ u Y1 Y2, RdI w [mapR u, mapR (.slice (some ⟨Q7, 0, none⟩) 2 2)] v ∧ RdP w (mapL Y1 Y2) u ∧ TX w Y1 sa ∧ TX w Y2 sb ∧ B ≤ Y2
  | true, 2 => fun _ _ => True
  | _, 3 => fun v _ => ∃ x, v = .tuple #[itV x, .int .i64 4] ∧ ROk x
  | _, 4 => fun v _ => ∃ x, v = .tuple #[itV x, .int .i64 4] ∧ ROk x
  | _, 5 => fun v _ => ∃ x, v = itV x ∧ ROk x
  | _, 6 => fun v _ => v = .int .i64 4
  | false, 7 => NewB B
  | true, 7 => fun _ _ => True
  | _, _ => fun _ _ => True
theorem ph17m (B Q7 : Nat) (s : Bool) (jx : Nat) (v : Value) (w w' : World) (hb : Below w.heap.size w w') (h : ph17 B Q7 s jx v w) : ph17 B Q7 s jx v w' := by
  unfold ph17 at h ⊢
  split at h
  all_goals first | exact h | exact NewB.mono hb h | exact (let ⟨u, Y1, Y2, e, h, h1, h2, h3⟩ := h; ⟨u, Y1, Y2, e, RdRows.below h hb, h1.go hb, h2.go hb, h3⟩) | exact (let ⟨u, Y1, Y2, e, h, h1, h2, h3⟩ := h; ⟨u, Y1, Y2, RdRows.below e hb, RdRows.below h hb, h1.go hb, h2.go hb, h3⟩) | trivial
def ph18 (B Q7 : Nat) : Bool → Nat → Value → World → Prop
  | false, 0 => fun v w => ∃ u Y1 Y2, v = itV (mapR u) ∧ RdP w (mapL Y1 Y2) u ∧ TX w Y1 sa ∧ TX w Y2 sb ∧ B ≤ Y2
  | true, 0 => fun _ _ => True
  | _, 1 => fun v _ => v = itV (mapR (.slice (some ⟨Q7, 0, none⟩) 2 2))
  | false, 2 => fun v w => ∃ u Y1 Y2, RdI w [mapR u, mapR (.slice (some ⟨Q7, 0, none⟩) 2 2)] v ∧ RdP w (mapL Y1 Y2) u ∧ TX w Y1 sa ∧ TX w Y2 sb ∧ B ≤ Y2
  | true, 2 => fun _ _ => True
  | _, 3 => fun v _ => ∃ x, v = .tuple #[itV x, .int .i64 1] ∧ ROk x
  | _, 4 => fun v _ => ∃ x, v = .tuple #[itV x, .int .i64 1] ∧ ROk x
  | _, 5 => fun v _ => ∃ x, v = itV x ∧ ROk x
  | _, 6 => fun v _ => v = .int .i64 1
  | false, 7 => NewB B
  | true, 7 => fun _ _ => True
  | _, _ => fun _ _ => True
theorem ph18m (B Q7 : Nat) (s : Bool) (jx : Nat) (v : Value) (w w' : World) (hb : Below w.heap.size w w') (h : ph18 B Q7 s jx v w) : ph18 B Q7 s jx v w' := by
  unfold ph18 at h ⊢
  split at h
  all_goals first | exact h | exact NewB.mono hb h | exact (let ⟨u, Y1, Y2, e, h, h1, h2, h3⟩ := h; ⟨u, Y1, Y2, e, RdRows.below h hb, h1.go hb, h2.go hb, h3⟩) | exact (let ⟨u, Y1, Y2, e, h, h1, h2, h3⟩ := h; ⟨u, Y1, Y2, RdRows.below e hb, RdRows.below h hb, h1.go hb, h2.go hb, h3⟩) | trivial
def ph21 (B : Nat) : Nat → Value → World → Prop
  | 0 => fun v _ => v = .agg #[.int .i64 4, .string d1]
  | 1 => fun v _ => v = .agg #[.int .i64 4, .string d1, .slice none 0 0]
  | 2 => fun v _ => v = .agg #[.int .i64 3, .string d1]
  | 3 => fun v _ => v = .agg #[.int .i64 3, .string d1, .slice none 0 0]
  | 4 => fun v w => RdP w tL v
  | 5 => fun v w => ∃ u, v = itV (mapR u) ∧ RdP w tL u
  | 6 => NewB B
  | _ => fun _ _ => True
theorem ph21m (B : Nat) (jx : Nat) (v : Value) (w w' : World) (hb : Below w.heap.size w w') (h : ph21 B jx v w) : ph21 B jx v w' := by
  unfold ph21 at h ⊢
  split at h
  all_goals first | exact h | exact NewB.mono hb h | exact RdRows.below h hb | exact (let ⟨u, e, h⟩ := h; ⟨u, e, RdRows.below h hb⟩) | trivial
def ph22 (B : Nat) (A22 : Option Addr) (c22 : Nat) : Bool → Nat → Value → World → Prop
  | _, 0 => fun v _ => v = itV (mapR (.slice A22 2 c22))
  | _, 1 => fun v _ => v = .agg #[.int .i64 3, .string d1]
  | _, 2 => fun v _ => ∃ x, v = .tuple #[itV x, .int .i64 1] ∧ ROk x
  | _, 3 => fun v _ => ∃ x, v = .tuple #[itV x, .int .i64 1] ∧ ROk x
  | _, 4 => fun v _ => ∃ x, v = itV x ∧ ROk x
  | _, 5 => fun v _ => v = .int .i64 1
  | false, 6 => NewB B
  | true, 6 => fun _ _ => True
  | _, _ => fun _ _ => True
theorem ph22m (B : Nat) (A22 : Option Addr) (c22 : Nat) (s : Bool) (jx : Nat) (v : Value) (w w' : World) (hb : Below w.heap.size w w') (h : ph22 B A22 c22 s jx v w) : ph22 B A22 c22 s jx v w' := by
  unfold ph22 at h ⊢
  split at h
  all_goals first | exact h | exact NewB.mono hb h | trivial
def ph29 (B Q : Nat) : Bool → Nat → Value → World → Prop
  | _, 0 => fun v _ => v = itV (aR (.slice (some ⟨Q, 0, none⟩) 2 2))
  | false, 1 => fun v w => ∃ X, v = sl1 X ∧ TX w X s7_
  | true, 1 => fun _ _ => True
  | _, 2 => fun v _ => ∃ A c, v = .tuple #[itV (aR (.slice A 3 c)), .int .i64 0]
  | _, 3 => fun v _ => ∃ A c, v = .tuple #[itV (aR (.slice A 3 c)), .int .i64 0]
  | _, 4 => fun v _ => ∃ A c, v = itV (aR (.slice A 3 c))
  | _, 5 => fun v _ => v = .int .i64 0
  | false, 6 => NewB B
  | true, 6 => fun v w => ∃ b A c, v = .pointer (some ⟨b, 0, none⟩) ∧ BI w b (aR (.slice A 3 c))
  | _, _ => fun _ _ => True
theorem ph29m (B Q : Nat) (s : Bool) (jx : Nat) (v : Value) (w w' : World) (hb : Below w.heap.size w w') (h : ph29 B Q s jx v w) : ph29 B Q s jx v w' := by
  unfold ph29 at h ⊢
  split at h
  all_goals first | exact h | exact NewB.mono hb h | exact (let ⟨X, e, h⟩ := h; ⟨X, e, h.go hb⟩) | exact (let ⟨b, A, c, e, h⟩ := h; ⟨b, A, c, e, h.go hb⟩) | trivial
def ph34 (B Q : Nat) : Bool → Nat → Value → World → Prop
  | _, 0 => fun v _ => v = itV (aR (.slice (some ⟨Q, 0, none⟩) 2 2))
  | false, 1 => fun v w => ∃ u Y1 Y2, v = itV (mapR u) ∧ RdP w (mapL Y1 Y2) u ∧ TX w Y1 sa ∧ TX w Y2 sb ∧ B ≤ Y2
  | true, 1 => fun _ _ => True
  | false, 2 => fun v w => ∃ u Y1 Y2, RdI w [aR (.slice (some ⟨Q, 0, none⟩) 2 2), mapR u] v ∧ RdP w (mapL Y1 Y2) u
  | true, 2 => fun _ _ => True
  | _, 3 => fun v _ => ∃ x, v = .tuple #[itV x, .int .i64 1] ∧ ROk x
  | _, 4 => fun v _ => ∃ x, v = .tuple #[itV x, .int .i64 1] ∧ ROk x
  | _, 5 => fun v _ => ∃ x, v = itV x ∧ ROk x
  | _, 6 => fun v _ => v = .int .i64 1
  | false, 7 => NewB B
  | true, 7 => fun _ _ => True
  | _, _ => fun _ _ => True
theorem ph34m (B Q : Nat) (s : Bool) (jx : Nat) (v : Value) (w w' : World) (hb : Below w.heap.size w w') (h : ph34 B Q s jx v w) : ph34 B Q s jx v w' := by
  unfold ph34 at h ⊢
  split at h
  all_goals first | exact h | exact NewB.mono hb h | exact (let ⟨u, Y1, Y2, e, h, h1, h2, h3⟩ := h; ⟨u, Y1, Y2, e, RdRows.below h hb, h1.go hb, h2.go hb, h3⟩) | exact (let ⟨u, Y1, Y2, e, h, h1, h2, h3⟩ := h; ⟨u, Y1, Y2, RdRows.below e hb, RdRows.below h hb, h1.go hb, h2.go hb, h3⟩) | exact (let ⟨u, Y1, Y2, e, h⟩ := h; ⟨u, Y1, Y2, RdRows.below e hb, RdRows.below h hb⟩) | trivial
set_option maxRecDepth 100000 in
set_option maxHeartbeats 16000000 in
theorem mapsKnown_any (w : World) : Calls Tryz.prog 4 #[] w fun e w' => e = .returned (.bool true) ∧ Below w.heap.size w w' := by
  go_enter Tryz.func4, Tryz.ntmps4
  go_upto_region 2 with fail
  obtain ⟨W1, hW1⟩ : ∃ W1, w.alloc (.cells #[.int .i64 4, .string { data := #[49] }] 26) = W1 := ⟨_, rfl⟩
  have HB1 := Lib.hid (show Below w.heap.size w W1 from hW1 ▸ box1 _ _ _)
  have HA1 := Lib.hid (show AB W1 w.heap.size 4 d1 from hW1 ▸ hp_new rfl)
  rw [hW1]
  clear hW1
  obtain ⟨B1, hB1⟩ : ∃ B1, w.heap.size = B1 := ⟨_, rfl⟩
  have HQ := Lib.hid hB1
  rw [hB1] at HA1
  simp only [hB1]
  clear hB1
  refine wp_region_drawnF (by kernel_rfl) 9 374 [47, 48, 49, 50, 51, 52, 53, 54, 2] (ph2 W1.heap.size) rfl (by kernel_rfl) (ph2m _) ?_ ?_
  · intro T hT i o hi ho W hb hdep
    have hi' : i = 0 ∨ i = 1 ∨ i = 2 ∨ i = 3 ∨ i = 4 ∨ i = 5 ∨ i = 6 ∨ i = 7 ∨ i = 8 := by omega
    clear hi
    rcases hi' with rfl | rfl | rfl | rfl | rfl | rfl | rfl | rfl | rfl
    · cases ho
      have f1 : T.getD 1 undef = .pointer (some ⟨B1, 0, none⟩) := (hT 1 (by decide)).trans (by kernel_rfl)
      obtain ⟨l0, l1⟩ := blk2c (HA1.out.go hb)
      have g1 := f1
      rw [Array.getD_eq_getD_getElem?] at g1
      clear hdep hT
      go_wp2
      exact ⟨rfl, _, rfl, Below.refl _ _, rfl⟩
    · cases ho
      clear hdep hT
      go_wp2_with fail
      refine (txt_tx _ _).mono ?_
      rintro e w1 ⟨⟨X, rfl, hX, _⟩, hb1⟩
      go_wp2
      exact ⟨rfl, _, rfl, hb1, X, rfl, hX⟩
    · cases ho
      obtain ⟨y0, f47⟩ : ∃ y, T.getD 47 undef = y := ⟨_, rfl⟩
      have hd0 : ph2 W1.heap.size 0 y0 W := by rw [← f47]; exact hdep 0 (by omega) (by kernel_rfl)
      obtain ⟨y1, f48⟩ : ∃ y, T.getD 48 undef = y := ⟨_, rfl⟩
      have hd1 : ph2 W1.heap.size 1 y1 W := by rw [← f48]; exact hdep 1 (by omega) (by kernel_rfl)
      obtain rfl : y0 = .agg #[.int .i64 4, .string d1] := hd0
      obtain ⟨X, rfl, hX⟩ : ∃ X, y1 = sl1 X ∧ TX W X sx := hd1
      try simp only [sl1] at f47
      try simp only [sl1] at f48
      have g47 := f47
      rw [Array.getD_eq_getD_getElem?] at g47
      have g48 := f48
      rw [Array.getD_eq_getD_getElem?] at g48
      clear hdep hT
      go_wp2
      exact ⟨rfl, _, rfl, Below.refl _ _, X, rfl, hX⟩
    · cases ho
      clear hdep hT
      go_wp2_with fail
      refine (number_any _ _).mono ?_
      rintro e w1 ⟨rfl, hb1⟩
      go_wp2
      exact ⟨rfl, _, rfl, hb1, rfl⟩
    · cases ho
      clear hdep hT
      go_wp2_with fail
      refine (txt_tx _ _).mono ?_
      rintro e w1 ⟨⟨X, rfl, hX, _⟩, hb1⟩
      go_wp2
      exact ⟨rfl, _, rfl, hb1, X, rfl, hX⟩
    · cases ho
      obtain ⟨y3, f50⟩ : ∃ y, T.getD 50 undef = y := ⟨_, rfl⟩
      have hd3 : ph2 W1.heap.size 3 y3 W := by rw [← f50]; exact hdep 3 (by omega) (by kernel_rfl)
      obtain ⟨y4, f51⟩ : ∃ y, T.getD 51 undef = y := ⟨_, rfl⟩
      have hd4 : ph2 W1.heap.size 4 y4 W := by rw [← f51]; exact hdep 4 (by omega) (by kernel_rfl)
      obtain rfl : y3 = .agg #[.int .i64 3, .string d2] := hd3
      obtain ⟨X, rfl, hX⟩ : ∃ X, y4 = sl1 X ∧ TX W X sy := hd4
      try simp only [sl1] at f50
      try simp only [sl1] at f51
      have g50 := f50
      rw [Array.getD_eq_getD_getElem?] at g50
      have g51 := f51
      rw [Array.getD_eq_getD_getElem?] at g51
      clear hdep hT
      go_wp2
      exact ⟨rfl, _, rfl, Below.refl _ _, X, rfl, hX⟩
    · cases ho
      obtain ⟨y2, f49⟩ : ∃ y, T.getD 49 undef = y := ⟨_, rfl⟩
      have hd2 : ph2 W1.heap.size 2 y2 W := by rw [← f49]; exact hdep 2 (by omega) (by kernel_rfl)
      obtain ⟨y5, f52⟩ : ∃ y, T.getD 52 undef = y := ⟨_, rfl⟩
      have hd5 : ph2 W1.heap.size 5 y5 W := by rw [← f52]; exact hdep 5 (by omega) (by kernel_rfl)
      obtain ⟨X1, rfl, hX1⟩ : ∃ X, y2 = .agg #[.int .i64 4, .string d1, sl1 X] ∧ TX W X sx := hd2
      obtain ⟨X2, rfl, hX2⟩ : ∃ X, y5 = .agg #[.int .i64 3, .string d2, sl1 X] ∧ TX W X sy := hd5
      try simp only [sl1] at f49
      try simp only [sl1] at f52
      have g49 := f49
      rw [Array.getD_eq_getD_getElem?] at g49
      have g52 := f52
      rw [Array.getD_eq_getD_getElem?] at g52
      clear hdep hT
      go_wp2
      exact ⟨rfl, _, rfl, box1 _ _ _, X1, X2, litp_two (p := ⟨4, d1, sl1 X1⟩) (q := ⟨3, d2, sl1 X2⟩), hX1.go (box1 _ _ _), hX2.go (box1 _ _ _)⟩
    · cases ho
      obtain ⟨y6, f53⟩ : ∃ y, T.getD 53 undef = y := ⟨_, rfl⟩
      have hd6 : ph2 W1.heap.size 6 y6 W := by rw [← f53]; exact hdep 6 (by omega) (by kernel_rfl)
      obtain ⟨X1, X2, hr, hX1, hX2⟩ : ∃ X1 X2, RdP W (mL X1 X2) y6 ∧ TX W X1 sx ∧ TX W X2 sy := hd6
      obtain ⟨A6, c6, e6, _⟩ := RdP.form hr
      obtain rfl : y6 = .slice A6 2 c6 := e6
      have g53 := f53
      rw [Array.getD_eq_getD_getElem?] at g53
      clear hdep hT
      go_wp2
      exact ⟨rfl, _, rfl, Below.refl _ _, _, X1, X2, rfl, hr, hX1, hX2⟩
    · cases ho
      clear hdep hT
      go_wp2
      exact ⟨rfl, _, rfl, box1 _ _ _, _, rfl, hp_new rfl, hb.size⟩
  · intro ys W hys hb hall
    obtain ⟨y0, y1, y2, y3, y4, y5, y6, y7, y8, rfl⟩ := list9 hys
    simp only [setM, List.setIfInBounds_toArray, List.set_cons_zero, List.set_cons_succ]
    obtain ⟨u2, X1, X2, rfl, hr2, hX1, hX2⟩ : ∃ u X1 X2, y7 = itV (mapR u) ∧ RdP W (mL X1 X2) u ∧ TX W X1 sx ∧ TX W X2 sy := hall 7 (by omega)
    obtain ⟨B2, rfl, hz2, hl2⟩ : NewB W1.heap.size y8 W := hall 8 (by omega)
    obtain ⟨A2, c2, e2, _⟩ := RdP.form hr2
    obtain rfl : u2 = .slice A2 2 c2 := e2
    clear hall
    simp only [List.drop_succ_cons, List.drop_zero]
    refine wpList_putB rfl (.tmp 2) (.tmp 54) rfl rfl B2 (mapR (.slice A2 2 c2)) rfl rfl hz2 ⟨rfl, rfl, rfl⟩ ?_
    obtain ⟨W2, hW2⟩ : ∃ W2, putB W B2 (mapR (.slice A2 2 c2)) = W2 := ⟨_, rfl⟩
    have hb2 : Below W1.heap.size W1 W2 := hW2 ▸ putB_below hb hl2
    have S2 := Lib.hid (show K2 w W2 B1 B2 X1 X2 (.slice A2 2 c2) from ⟨HB1.out.trans (hb2.mono HB1.out.size), HA1.out.go hb2, hW2 ▸ putB_bi hz2, hW2 ▸ putB_rdp hr2 (show (4 : Int) ≠ 0 by decide) hz2, hW2 ▸ hX1.put hz2, hW2 ▸ hX2.put hz2⟩)
    rw [hW2]
    clear hW2 hb2 hz2 hr2 hX1 hX2 hl2 hb HB1 HA1
    go_wp2_with fail
    refine wp_region_drawnF2 (by kernel_rfl) 8 374 [56, 57, 58, 59, 55, 60, 61, 3] [6] (ph3 W2.heap.size A2 c2 X2) rfl (by kernel_rfl) (ph3m _ _ _ _) ?_ ?_ ?_ ?_
    · intro T hT i o hi ho W hb hdep
      have hi' : i = 0 ∨ i = 1 ∨ i = 2 ∨ i = 3 ∨ i = 4 ∨ i = 5 ∨ i = 6 ∨ i = 7 := by omega
      clear hi
      rcases hi' with rfl | rfl | rfl | rfl | rfl | rfl | rfl | rfl
      · cases ho
        have f2 : T.getD 2 undef = .pointer (some ⟨B2, 0, none⟩) := (hT 2 (by decide)).trans (by kernel_rfl)
        obtain ⟨l0, l1, l2, l3, l4, l5, l6, l7⟩ := blk8c (S2.out.go hb).x2
        have g2 := f2
        rw [Array.getD_eq_getD_getElem?] at g2
        clear hdep hT
        go_wp2
        exact ⟨rfl, _, rfl, Below.refl _ _, rfl⟩
      · cases ho
        clear hdep hT
        go_wp2_with fail
        refine (number_any _ _).mono ?_
        rintro e w1 ⟨rfl, hb1⟩
        go_wp2
        exact ⟨rfl, _, rfl, hb1, rfl⟩
      · cases ho
        clear hdep hT
        go_wp2_with fail
        refine (txt_tx _ _).mono ?_
        rintro e w1 ⟨⟨X, rfl, hX, _⟩, hb1⟩
        go_wp2
        exact ⟨rfl, _, rfl, hb1, X, rfl, hX⟩
      · cases ho
        obtain ⟨y0, f56⟩ : ∃ y, T.getD 56 undef = y := ⟨_, rfl⟩
        have hd0 : ph3 W2.heap.size A2 c2 X2 false 0 y0 W := by rw [← f56]; exact hdep 0 (by omega) (by kernel_rfl)
        obtain ⟨y1, f57⟩ : ∃ y, T.getD 57 undef = y := ⟨_, rfl⟩
        have hd1 : ph3 W2.heap.size A2 c2 X2 false 1 y1 W := by rw [← f57]; exact hdep 1 (by omega) (by kernel_rfl)
        obtain ⟨y2, f58⟩ : ∃ y, T.getD 58 undef = y := ⟨_, rfl⟩
        have hd2 : ph3 W2.heap.size A2 c2 X2 false 2 y2 W := by rw [← f58]; exact hdep 2 (by omega) (by kernel_rfl)
        obtain rfl : y0 = itV (mapR (.slice A2 2 c2)) := hd0
        obtain rfl : y1 = .agg #[.int .i64 3, .string d1] := hd1
        obtain ⟨X, rfl, hX⟩ : ∃ X, y2 = sl1 X ∧ TX W X sa := hd2
        have g56 := f56
        rw [Array.getD_eq_getD_getElem?] at g56
        have g57 := f57
        rw [Array.getD_eq_getD_getElem?] at g57
        have g58 := f58
        rw [Array.getD_eq_getD_getElem?] at g58
        clear hdep hT
        go_wp2_with fail
        refine (putK (S2.out.go hb).r2 (S2.out.go hb).t2 hX).mono ?_
        rintro e w1 ⟨⟨u, rfl, hr⟩, hb1⟩
        go_wp2
        exact ⟨rfl, _, rfl, hb1, u, X, rfl, hr, hX.go hb1⟩
      · cases ho
        obtain ⟨y3, f59⟩ : ∃ y, T.getD 59 undef = y := ⟨_, rfl⟩
        have hd3 : ph3 W2.heap.size A2 c2 X2 false 3 y3 W := by rw [← f59]; exact hdep 3 (by omega) (by kernel_rfl)
        obtain ⟨u, X, rfl, hr, hX⟩ : ∃ u X, y3 = .tuple #[itV (mapR u), .int .i64 0] ∧ RdP W (mapL X X2) u ∧ TX W X sa := hd3
        have g59 := f59
        rw [Array.getD_eq_getD_getElem?] at g59
        clear hdep hT
        go_wp2
        exact ⟨rfl, _, rfl, Below.refl _ _, u, X, rfl, hr, hX⟩
      · cases ho
        obtain ⟨y4, f55⟩ : ∃ y, T.getD 55 undef = y := ⟨_, rfl⟩
        have hd4 : ph3 W2.heap.size A2 c2 X2 false 4 y4 W := by rw [← f55]; exact hdep 4 (by omega) (by kernel_rfl)
        obtain ⟨u, X, rfl, hr, hX⟩ : ∃ u X, y4 = .tuple #[itV (mapR u), .int .i64 0] ∧ RdP W (mapL X X2) u ∧ TX W X sa := hd4
        have g55 := f55
        rw [Array.getD_eq_getD_getElem?] at g55
        clear hdep hT
        go_wp2
        exact ⟨rfl, _, rfl, Below.refl _ _, u, X, rfl, hr, hX⟩
      · cases ho
        obtain ⟨y4, f55⟩ : ∃ y, T.getD 55 undef = y := ⟨_, rfl⟩
        have hd4 : ph3 W2.heap.size A2 c2 X2 false 4 y4 W := by rw [← f55]; exact hdep 4 (by omega) (by kernel_rfl)
        obtain ⟨u, X, rfl, hr, hX⟩ : ∃ u X, y4 = .tuple #[itV (mapR u), .int .i64 0] ∧ RdP W (mapL X X2) u ∧ TX W X sa := hd4
        have g55 := f55
        rw [Array.getD_eq_getD_getElem?] at g55
        clear hdep hT
        go_wp2
        exact ⟨rfl, _, rfl, Below.refl _ _, rfl⟩
      · cases ho
        clear hdep hT
        go_wp2
        exact ⟨rfl, _, rfl, box1 _ _ _, _, rfl, hp_new rfl, hb.size⟩
    · intro T hT i o hl hi ho W hb hdep
      have hi' : i = 6 := by simpa using hl
      clear hl hi
      rcases hi' with rfl
      · cases ho
        obtain ⟨y4, f55⟩ : ∃ y, T.getD 55 undef = y := ⟨_, rfl⟩
        have hd4 : ph3 W2.heap.size A2 c2 X2 true 4 y4 W := by rw [← f55]; exact hdep 4 (by omega) (by kernel_rfl)
        obtain ⟨u, X, rfl, hr, hX⟩ : ∃ u X, y4 = .tuple #[itV (mapR u), .int .i64 0] ∧ RdP W (mapL X X2) u ∧ TX W X sa := hd4
        have g55 := f55
        rw [Array.getD_eq_getD_getElem?] at g55
        clear hdep hT
        go_wp2
        exact ⟨rfl, _, rfl, Below.refl _ _, rfl⟩
    · intro T hT o ho W hb hdep
      cases ho
      obtain ⟨y5, f60⟩ : ∃ y, T.getD 60 undef = y := ⟨_, rfl⟩
      have hd5 : ph3 W2.heap.size A2 c2 X2 false 5 y5 W := by rw [← f60]; exact hdep 5 (by omega) (by kernel_rfl)
      obtain ⟨y7, f3⟩ : ∃ y, T.getD 3 undef = y := ⟨_, rfl⟩
      have hd7 : ph3 W2.heap.size A2 c2 X2 false 7 y7 W := by rw [← f3]; exact hdep 7 (by omega) (by kernel_rfl)
      obtain ⟨u, X, rfl, hr, hX⟩ : ∃ u X, y5 = itV (mapR u) ∧ RdP W (mapL X X2) u ∧ TX W X sa := hd5
      obtain ⟨B3, rfl, hz3, hl3⟩ : NewB W2.heap.size y7 W := hd7
      obtain ⟨A3, c3, e3, _⟩ := RdP.form hr
      obtain rfl : u = .slice A3 2 c3 := e3
      refine wpList_putB rfl (.tmp 3) (.tmp 60) rfl rfl B3 (mapR (.slice A3 2 c3)) f3 f60 hz3 ⟨rfl, rfl, rfl⟩ ?_
      refine ⟨rfl, rfl, putB_below hb hl3, fun j hj h => ?_⟩
      match j, hj, h with
      | 0, _, h => exact h
      | 1, _, h => exact h
      | 2, _, h => exact trivial
      | 3, _, h => exact (let ⟨u, X, e, h, h1⟩ := h; ⟨u, X, e, putB_rdp h (show (3 : Int) ≠ 0 by decide) hz3, h1.put hz3⟩)
      | 4, _, h => exact (let ⟨u, X, e, h, h1⟩ := h; ⟨u, X, e, putB_rdp h (show (3 : Int) ≠ 0 by decide) hz3, h1.put hz3⟩)
      | 5, _, h => exact trivial
      | 6, _, h => exact h
      | 7, _, h => exact (show ph3 W2.heap.size A2 c2 X2 true 7 (T.getD 3 undef) _ from by rw [f3]; exact ⟨_, _, X, rfl, putB_bi hz3, putB_rdp hr (show (3 : Int) ≠ 0 by decide) hz3, hX.put hz3⟩)
    · intro ys W hys hb hall
      obtain ⟨y0, y1, y2, y3, y4, y5, y6, y7, rfl⟩ := list8 hys
      simp only [setM, List.setIfInBounds_toArray, List.set_cons_zero, List.set_cons_succ]
      obtain rfl : y6 = .int .i64 0 := hall 6 (by omega)
      obtain ⟨B3, u3, X3, rfl, hx3, hr3, hX3⟩ : ∃ b u X, y7 = .pointer (some ⟨b, 0, none⟩) ∧ BI W b (mapR u) ∧ RdP W (mapL X X2) u ∧ TX W X sa := hall 7 (by omega)
      obtain ⟨A3, c3, e3, _⟩ := RdP.form hr3
      obtain rfl : u3 = .slice A3 2 c3 := e3
      clear hall
      simp only [List.drop_succ_cons, List.drop_zero]
      have S3 := Lib.hid (S2.out.go hb)
      have M3 := Lib.hid (KM.mk hx3 hr3)
      have T3 := Lib.hid hX3
      clear hx3 hr3 hX3 hb S2
      generalize W = W3 at *
      go_wp2_with fail
      refine wp_region_drawnF2 (by kernel_rfl) 7 374 [63, 64, 65, 62, 66, 67, 5] [5] (ph4 W3.heap.size A2 c2 X1 X2) rfl (by kernel_rfl) (ph4m _ _ _ _ _) ?_ ?_ ?_ ?_
      · intro T hT i o hi ho W hb hdep
        have hi' : i = 0 ∨ i = 1 ∨ i = 2 ∨ i = 3 ∨ i = 4 ∨ i = 5 ∨ i = 6 := by omega
        clear hi
        rcases hi' with rfl | rfl | rfl | rfl | rfl | rfl | rfl
        · cases ho
          have f2 : T.getD 2 undef = .pointer (some ⟨B2, 0, none⟩) := (hT 2 (by decide)).trans (by kernel_rfl)
          obtain ⟨l0, l1, l2, l3, l4, l5, l6, l7⟩ := blk8c (S3.out.go hb).x2
          have g2 := f2
          rw [Array.getD_eq_getD_getElem?] at g2
          clear hdep hT
          go_wp2
          exact ⟨rfl, _, rfl, Below.refl _ _, rfl⟩
        · cases ho
          clear hdep hT
          go_wp2_with fail
          refine (number_any _ _).mono ?_
          rintro e w1 ⟨rfl, hb1⟩
          go_wp2
          exact ⟨rfl, _, rfl, hb1, rfl⟩
        · cases ho
          obtain ⟨y0, f63⟩ : ∃ y, T.getD 63 undef = y := ⟨_, rfl⟩
          have hd0 : ph4 W3.heap.size A2 c2 X1 X2 false 0 y0 W := by rw [← f63]; exact hdep 0 (by omega) (by kernel_rfl)
          obtain ⟨y1, f64⟩ : ∃ y, T.getD 64 undef = y := ⟨_, rfl⟩
          have hd1 : ph4 W3.heap.size A2 c2 X1 X2 false 1 y1 W := by rw [← f64]; exact hdep 1 (by omega) (by kernel_rfl)
          obtain rfl : y0 = itV (mapR (.slice A2 2 c2)) := hd0
          obtain rfl : y1 = .agg #[.int .i64 3, .string d3] := hd1
          have g63 := f63
          rw [Array.getD_eq_getD_getElem?] at g63
          have g64 := f64
          rw [Array.getD_eq_getD_getElem?] at g64
          clear hdep hT
          go_wp2_with fail
          refine (remK (S3.out.go hb).r2).mono ?_
          rintro e w1 ⟨⟨u, rfl, hr⟩, hb1⟩
          go_wp2
          exact ⟨rfl, _, rfl, hb1, u, rfl, hr⟩
        · cases ho
          obtain ⟨y2, f65⟩ : ∃ y, T.getD 65 undef = y := ⟨_, rfl⟩
          have hd2 : ph4 W3.heap.size A2 c2 X1 X2 false 2 y2 W := by rw [← f65]; exact hdep 2 (by omega) (by kernel_rfl)
          obtain ⟨u, rfl, hr⟩ : ∃ u, y2 = .tuple #[itV (mapR u), .int .i64 0] ∧ RdP W (mL X1 X2) u := hd2
          have g65 := f65
          rw [Array.getD_eq_getD_getElem?] at g65
          clear hdep hT
          go_wp2
          exact ⟨rfl, _, rfl, Below.refl _ _, u, rfl, hr⟩
        · cases ho
          obtain ⟨y3, f62⟩ : ∃ y, T.getD 62 undef = y := ⟨_, rfl⟩
          have hd3 : ph4 W3.heap.size A2 c2 X1 X2 false 3 y3 W := by rw [← f62]; exact hdep 3 (by omega) (by kernel_rfl)
          obtain ⟨u, rfl, hr⟩ : ∃ u, y3 = .tuple #[itV (mapR u), .int .i64 0] ∧ RdP W (mL X1 X2) u := hd3
          have g62 := f62
          rw [Array.getD_eq_getD_getElem?] at g62
          clear hdep hT
          go_wp2
          exact ⟨rfl, _, rfl, Below.refl _ _, u, rfl, hr⟩
        · cases ho
          obtain ⟨y3, f62⟩ : ∃ y, T.getD 62 undef = y := ⟨_, rfl⟩
          have hd3 : ph4 W3.heap.size A2 c2 X1 X2 false 3 y3 W := by rw [← f62]; exact hdep 3 (by omega) (by kernel_rfl)
          obtain ⟨u, rfl, hr⟩ : ∃ u, y3 = .tuple #[itV (mapR u), .int .i64 0] ∧ RdP W (mL X1 X2) u := hd3
          have g62 := f62
          rw [Array.getD_eq_getD_getElem?] at g62
          clear hdep hT
          go_wp2
          exact ⟨rfl, _, rfl, Below.refl _ _, rfl⟩
        · cases ho
          clear hdep hT
          go_wp2
          exact ⟨rfl, _, rfl, box1 _ _ _, _, rfl, hp_new rfl, hb.size⟩
      · intro T hT i o hl hi ho W hb hdep
        have hi' : i = 5 := by simpa using hl
        clear hl hi
        rcases hi' with rfl
        · cases ho
          obtain ⟨y3, f62⟩ : ∃ y, T.getD 62 undef = y := ⟨_, rfl⟩
          have hd3 : ph4 W3.heap.size A2 c2 X1 X2 true 3 y3 W := by rw [← f62]; exact hdep 3 (by omega) (by kernel_rfl)
          obtain ⟨u, rfl, hr⟩ : ∃ u, y3 = .tuple #[itV (mapR u), .int .i64 0] ∧ RdP W (mL X1 X2) u := hd3
          have g62 := f62
          rw [Array.getD_eq_getD_getElem?] at g62
          clear hdep hT
          go_wp2
          exact ⟨rfl, _, rfl, Below.refl _ _, rfl⟩
      · intro T hT o ho W hb hdep
        cases ho
        obtain ⟨y4, f66⟩ : ∃ y, T.getD 66 undef = y := ⟨_, rfl⟩
        have hd4 : ph4 W3.heap.size A2 c2 X1 X2 false 4 y4 W := by rw [← f66]; exact hdep 4 (by omega) (by kernel_rfl)
        obtain ⟨y6, f5⟩ : ∃ y, T.getD 5 undef = y := ⟨_, rfl⟩
        have hd6 : ph4 W3.heap.size A2 c2 X1 X2 false 6 y6 W := by rw [← f5]; exact hdep 6 (by omega) (by kernel_rfl)
        obtain ⟨u, rfl, hr⟩ : ∃ u, y4 = itV (mapR u) ∧ RdP W (mL X1 X2) u := hd4
        obtain ⟨B5, rfl, hz5, hl5⟩ : NewB W3.heap.size y6 W := hd6
        obtain ⟨A5, c5, e5, _⟩ := RdP.form hr
        obtain rfl : u = .slice A5 2 c5 := e5
        refine wpList_putB rfl (.tmp 5) (.tmp 66) rfl rfl B5 (mapR (.slice A5 2 c5)) f5 f66 hz5 ⟨rfl, rfl, rfl⟩ ?_
        refine ⟨rfl, rfl, putB_below hb hl5, fun j hj h => ?_⟩
        match j, hj, h with
        | 0, _, h => exact h
        | 1, _, h => exact h
        | 2, _, h => exact (let ⟨u, e, h⟩ := h; ⟨u, e, putB_rdp h (show (4 : Int) ≠ 0 by decide) hz5⟩)
        | 3, _, h => exact (let ⟨u, e, h⟩ := h; ⟨u, e, putB_rdp h (show (4 : Int) ≠ 0 by decide) hz5⟩)
        | 4, _, h => exact trivial
        | 5, _, h => exact h
        | 6, _, h => exact (show ph4 W3.heap.size A2 c2 X1 X2 true 6 (T.getD 5 undef) _ from by rw [f5]; exact ⟨_, _, rfl, putB_bi hz5, putB_rdp hr (show (4 : Int) ≠ 0 by decide) hz5⟩)
      · intro ys W hys hb hall
        obtain ⟨y0, y1, y2, y3, y4, y5, y6, rfl⟩ := list7 hys
        simp only [setM, List.setIfInBounds_toArray, List.set_cons_zero, List.set_cons_succ]
        obtain rfl : y5 = .int .i64 0 := hall 5 (by omega)
        obtain ⟨B5, u5, rfl, hx5, hr5⟩ : ∃ b u, y6 = .pointer (some ⟨b, 0, none⟩) ∧ BI W b (mapR u) ∧ RdP W (mL X1 X2) u := hall 6 (by omega)
        obtain ⟨A5, c5, e5, _⟩ := RdP.form hr5
        obtain rfl : u5 = .slice A5 2 c5 := e5
        clear hall
        simp only [List.drop_succ_cons, List.drop_zero]
        have S4 := Lib.hid (S3.out.go hb)
        have M4 := Lib.hid (M3.out.go hb)
        have T4 := Lib.hid (T3.out.go hb)
        have N4 := Lib.hid (KM.mk hx5 hr5)
        clear hx5 hr5 hb S3 M3 T3
        generalize W = W4 at *
        go_wp2_with fail
        have hr40 := M4.out.r
        obtain ⟨bI, oI, q0, e40, hbI, hget, _, g0, g1, g2⟩ := RdP.row (l := mapL X3 X2) (by exact hr40) (Below.refl _ _) (k := 0) (by omega)
        obtain rfl : A3 = some ⟨bI, oI, none⟩ := e40
        obtain rfl : (⟨3, d1, sl1 X3⟩ : PRow) = q0 := Option.some.inj hget
        dsimp only at g0 g1 g2
        rw [Nat.zero_mul, Nat.add_zero] at g0 g1 g2
        have HG := Lib.hid (show ∀ W, Below W4.heap.size W4 W → W.cell? ⟨bI, oI, none⟩ = some (.int .i64 3) ∧ W.cell? ⟨bI, oI + 1, none⟩ = some (.string d1) ∧ W.cell? ⟨bI, oI + 2, none⟩ = some (sl1 X3) from fun W hW => ⟨(hW.cell (p := ⟨bI, _, none⟩) hbI).trans g0, (hW.cell (p := ⟨bI, _, none⟩) hbI).trans g1, (hW.cell (p := ⟨bI, _, none⟩) hbI).trans g2⟩)
        clear hr40 hget g0 g1 g2 hbI
        refine wp_region_drawnF (by kernel_rfl) 37 374 [68, 69, 70, 71, 72, 73, 74, 75, 76, 77, 78, 79, 80, 81, 82, 83, 84, 85, 86, 87, 88, 89, 90, 91, 92, 93, 94, 95, 96, 97, 98, 99, 100, 101, 102, 103, 104] (ph5 B3 bI oI c3 X3 A5 c5 A2 c2) rfl (by kernel_rfl) (ph5m _ _ _ _ _ _ _ _ _) ?_ ?_
        · intro T hT i o hi ho W hb hdep
          have hi' : i = 0 ∨ i = 1 ∨ i = 2 ∨ i = 3 ∨ i = 4 ∨ i = 5 ∨ i = 6 ∨ i = 7 ∨ i = 8 ∨ i = 9 ∨ i = 10 ∨ i = 11 ∨ i = 12 ∨ i = 13 ∨ i = 14 ∨ i = 15 ∨ i = 16 ∨ i = 17 ∨ i = 18 ∨ i = 19 ∨ i = 20 ∨ i = 21 ∨ i = 22 ∨ i = 23 ∨ i = 24 ∨ i = 25 ∨ i = 26 ∨ i = 27 ∨ i = 28 ∨ i = 29 ∨ i = 30 ∨ i = 31 ∨ i = 32 ∨ i = 33 ∨ i = 34 ∨ i = 35 ∨ i = 36 := by omega
          clear hi
          rcases hi' with rfl | rfl | rfl | rfl | rfl | rfl | rfl | rfl | rfl | rfl | rfl | rfl | rfl | rfl | rfl | rfl | rfl | rfl | rfl | rfl | rfl | rfl | rfl | rfl | rfl | rfl | rfl | rfl | rfl | rfl | rfl | rfl | rfl | rfl | rfl | rfl | rfl
          · cases ho
            have f4 : T.getD 4 undef = .int .i64 0 := (hT 4 (by decide)).trans (by kernel_rfl)
            have g4 := f4
            rw [Array.getD_eq_getD_getElem?] at g4
            clear hdep hT
            go_wp2
            exact ⟨rfl, _, rfl, Below.refl _ _, rfl⟩
          · cases ho
            obtain ⟨y0, f68⟩ : ∃ y, T.getD 68 undef = y := ⟨_, rfl⟩
            have hd0 : ph5 B3 bI oI c3 X3 A5 c5 A2 c2 0 y0 W := by rw [← f68]; exact hdep 0 (by omega) (by kernel_rfl)
            obtain rfl : y0 = .int .i64 0 := hd0
            have g68 := f68
            rw [Array.getD_eq_getD_getElem?] at g68
            clear hdep hT
            go_wp2
            exact ⟨rfl, _, rfl, Below.refl _ _, rfl⟩
          · cases ho
            obtain ⟨y1, f69⟩ : ∃ y, T.getD 69 undef = y := ⟨_, rfl⟩
            have hd1 : ph5 B3 bI oI c3 X3 A5 c5 A2 c2 1 y1 W := by rw [← f69]; exact hdep 1 (by omega) (by kernel_rfl)
            obtain rfl : y1 = .bool false := hd1
            have g69 := f69
            rw [Array.getD_eq_getD_getElem?] at g69
            clear hdep hT
            go_wp2
            exact ⟨rfl, _, rfl, Below.refl _ _, rfl⟩
          · cases ho
            obtain ⟨y2, f70⟩ : ∃ y, T.getD 70 undef = y := ⟨_, rfl⟩
            have hd2 : ph5 B3 bI oI c3 X3 A5 c5 A2 c2 2 y2 W := by rw [← f70]; exact hdep 2 (by omega) (by kernel_rfl)
            have f6 : T.getD 6 undef = .int .i64 0 := (hT 6 (by decide)).trans (by kernel_rfl)
            obtain rfl : y2 = .bool false := hd2
            have g70 := f70
            rw [Array.getD_eq_getD_getElem?] at g70
            have g6 := f6
            rw [Array.getD_eq_getD_getElem?] at g6
            clear hdep hT
            refine wpList_guard (wanted_false (j := 2) (d := 70) rfl (by kernel_rfl) f70) rfl ?_
            go_wp2
            exact ⟨rfl, _, rfl, Below.refl _ _, rfl⟩
          · cases ho
            obtain ⟨y3, f71⟩ : ∃ y, T.getD 71 undef = y := ⟨_, rfl⟩
            have hd3 : ph5 B3 bI oI c3 X3 A5 c5 A2 c2 3 y3 W := by rw [← f71]; exact hdep 3 (by omega) (by kernel_rfl)
            obtain ⟨y2, f70⟩ : ∃ y, T.getD 70 undef = y := ⟨_, rfl⟩
            have hd2 : ph5 B3 bI oI c3 X3 A5 c5 A2 c2 2 y2 W := by rw [← f70]; exact hdep 2 (by omega) (by kernel_rfl)
            obtain rfl : y3 = .int .i64 0 := hd3
            obtain rfl : y2 = .bool false := hd2
            have g71 := f71
            rw [Array.getD_eq_getD_getElem?] at g71
            have g70 := f70
            rw [Array.getD_eq_getD_getElem?] at g70
            clear hdep hT
            refine wpList_guard (wanted_false (j := 2) (d := 70) rfl (by kernel_rfl) f70) rfl ?_
            go_wp2
            exact ⟨rfl, _, rfl, Below.refl _ _, rfl⟩
          · cases ho
            obtain ⟨y2, f70⟩ : ∃ y, T.getD 70 undef = y := ⟨_, rfl⟩
            have hd2 : ph5 B3 bI oI c3 X3 A5 c5 A2 c2 2 y2 W := by rw [← f70]; exact hdep 2 (by omega) (by kernel_rfl)
            obtain ⟨y4, f72⟩ : ∃ y, T.getD 72 undef = y := ⟨_, rfl⟩
            have hd4 : ph5 B3 bI oI c3 X3 A5 c5 A2 c2 4 y4 W := by rw [← f72]; exact hdep 4 (by omega) (by kernel_rfl)
            obtain rfl : y2 = .bool false := hd2
            obtain rfl : y4 = .bool false := hd4
            have g70 := f70
            rw [Array.getD_eq_getD_getElem?] at g70
            have g72 := f72
            rw [Array.getD_eq_getD_getElem?] at g72
            clear hdep hT
            go_wp2
            exact ⟨rfl, _, rfl, Below.refl _ _, rfl⟩
          · cases ho
            obtain ⟨y5, f73⟩ : ∃ y, T.getD 73 undef = y := ⟨_, rfl⟩
            have hd5 : ph5 B3 bI oI c3 X3 A5 c5 A2 c2 5 y5 W := by rw [← f73]; exact hdep 5 (by omega) (by kernel_rfl)
            obtain rfl : y5 = .bool false := hd5
            have g73 := f73
            rw [Array.getD_eq_getD_getElem?] at g73
            clear hdep hT
            go_wp2
            exact ⟨rfl, _, rfl, Below.refl _ _, rfl⟩
          · cases ho
            obtain ⟨y6, f74⟩ : ∃ y, T.getD 74 undef = y := ⟨_, rfl⟩
            have hd6 : ph5 B3 bI oI c3 X3 A5 c5 A2 c2 6 y6 W := by rw [← f74]; exact hdep 6 (by omega) (by kernel_rfl)
            have f3 : T.getD 3 undef = .pointer (some ⟨B3, 0, none⟩) := (hT 3 (by decide)).trans (by kernel_rfl)
            obtain rfl : y6 = .bool false := hd6
            have g74 := f74
            rw [Array.getD_eq_getD_getElem?] at g74
            have g3 := f3
            rw [Array.getD_eq_getD_getElem?] at g3
            clear hdep hT
            refine wpList_guard (wanted_false (j := 6) (d := 74) rfl (by kernel_rfl) f74) rfl ?_
            go_wp2
            exact ⟨rfl, _, rfl, Below.refl _ _, rfl⟩
          · cases ho
            obtain ⟨y7, f75⟩ : ∃ y, T.getD 75 undef = y := ⟨_, rfl⟩
            have hd7 : ph5 B3 bI oI c3 X3 A5 c5 A2 c2 7 y7 W := by rw [← f75]; exact hdep 7 (by omega) (by kernel_rfl)
            obtain ⟨y6, f74⟩ : ∃ y, T.getD 74 undef = y := ⟨_, rfl⟩
            have hd6 : ph5 B3 bI oI c3 X3 A5 c5 A2 c2 6 y6 W := by rw [← f74]; exact hdep 6 (by omega) (by kernel_rfl)
            obtain rfl : y7 = .pointer (some ⟨B3, 5, none⟩) := hd7
            obtain rfl : y6 = .bool false := hd6
            obtain ⟨l0, l1, l2, l3, l4, l5, l6, l7⟩ := blk8c (M4.out.go hb).x
            have g75 := f75
            rw [Array.getD_eq_getD_getElem?] at g75
            have g74 := f74
            rw [Array.getD_eq_getD_getElem?] at g74
            clear hdep hT
            refine wpList_guard (wanted_false (j := 6) (d := 74) rfl (by kernel_rfl) f74) rfl ?_
            go_wp2
            exact ⟨rfl, _, rfl, Below.refl _ _, rfl⟩
          · cases ho
            obtain ⟨y8, f76⟩ : ∃ y, T.getD 76 undef = y := ⟨_, rfl⟩
            have hd8 : ph5 B3 bI oI c3 X3 A5 c5 A2 c2 8 y8 W := by rw [← f76]; exact hdep 8 (by omega) (by kernel_rfl)
            obtain ⟨y6, f74⟩ : ∃ y, T.getD 74 undef = y := ⟨_, rfl⟩
            have hd6 : ph5 B3 bI oI c3 X3 A5 c5 A2 c2 6 y6 W := by rw [← f74]; exact hdep 6 (by omega) (by kernel_rfl)
            obtain rfl : y8 = .slice (some ⟨bI, oI, none⟩) 2 c3 := hd8
            obtain rfl : y6 = .bool false := hd6
            have g76 := f76
            rw [Array.getD_eq_getD_getElem?] at g76
            have g74 := f74
            rw [Array.getD_eq_getD_getElem?] at g74
            clear hdep hT
            refine wpList_guard (wanted_false (j := 6) (d := 74) rfl (by kernel_rfl) f74) rfl ?_
            go_wp2
            exact ⟨rfl, _, rfl, Below.refl _ _, rfl⟩
          · cases ho
            obtain ⟨y9, f77⟩ : ∃ y, T.getD 77 undef = y := ⟨_, rfl⟩
            have hd9 : ph5 B3 bI oI c3 X3 A5 c5 A2 c2 9 y9 W := by rw [← f77]; exact hdep 9 (by omega) (by kernel_rfl)
            obtain ⟨y6, f74⟩ : ∃ y, T.getD 74 undef = y := ⟨_, rfl⟩
            have hd6 : ph5 B3 bI oI c3 X3 A5 c5 A2 c2 6 y6 W := by rw [← f74]; exact hdep 6 (by omega) (by kernel_rfl)
            obtain rfl : y9 = .int .i64 2 := hd9
            obtain rfl : y6 = .bool false := hd6
            have g77 := f77
            rw [Array.getD_eq_getD_getElem?] at g77
            have g74 := f74
            rw [Array.getD_eq_getD_getElem?] at g74
            clear hdep hT
            refine wpList_guard (wanted_false (j := 6) (d := 74) rfl (by kernel_rfl) f74) rfl ?_
            go_wp2
            exact ⟨rfl, _, rfl, Below.refl _ _, rfl⟩
          · cases ho
            obtain ⟨y6, f74⟩ : ∃ y, T.getD 74 undef = y := ⟨_, rfl⟩
            have hd6 : ph5 B3 bI oI c3 X3 A5 c5 A2 c2 6 y6 W := by rw [← f74]; exact hdep 6 (by omega) (by kernel_rfl)
            obtain ⟨y10, f78⟩ : ∃ y, T.getD 78 undef = y := ⟨_, rfl⟩
            have hd10 : ph5 B3 bI oI c3 X3 A5 c5 A2 c2 10 y10 W := by rw [← f78]; exact hdep 10 (by omega) (by kernel_rfl)
            obtain rfl : y6 = .bool false := hd6
            obtain rfl : y10 = .bool false := hd10
            have g74 := f74
            rw [Array.getD_eq_getD_getElem?] at g74
            have g78 := f78
            rw [Array.getD_eq_getD_getElem?] at g78
            clear hdep hT
            go_wp2
            exact ⟨rfl, _, rfl, Below.refl _ _, rfl⟩
          · cases ho
            obtain ⟨y11, f79⟩ : ∃ y, T.getD 79 undef = y := ⟨_, rfl⟩
            have hd11 : ph5 B3 bI oI c3 X3 A5 c5 A2 c2 11 y11 W := by rw [← f79]; exact hdep 11 (by omega) (by kernel_rfl)
            obtain rfl : y11 = .bool false := hd11
            have g79 := f79
            rw [Array.getD_eq_getD_getElem?] at g79
            clear hdep hT
            go_wp2
            exact ⟨rfl, _, rfl, Below.refl _ _, rfl⟩
          · cases ho
            obtain ⟨y12, f80⟩ : ∃ y, T.getD 80 undef = y := ⟨_, rfl⟩
            have hd12 : ph5 B3 bI oI c3 X3 A5 c5 A2 c2 12 y12 W := by rw [← f80]; exact hdep 12 (by omega) (by kernel_rfl)
            have f3 : T.getD 3 undef = .pointer (some ⟨B3, 0, none⟩) := (hT 3 (by decide)).trans (by kernel_rfl)
            obtain rfl : y12 = .bool false := hd12
            have g80 := f80
            rw [Array.getD_eq_getD_getElem?] at g80
            have g3 := f3
            rw [Array.getD_eq_getD_getElem?] at g3
            clear hdep hT
            refine wpList_guard (wanted_false (j := 12) (d := 80) rfl (by kernel_rfl) f80) rfl ?_
            go_wp2
            exact ⟨rfl, _, rfl, Below.refl _ _, rfl⟩
          · cases ho
            obtain ⟨y13, f81⟩ : ∃ y, T.getD 81 undef = y := ⟨_, rfl⟩
            have hd13 : ph5 B3 bI oI c3 X3 A5 c5 A2 c2 13 y13 W := by rw [← f81]; exact hdep 13 (by omega) (by kernel_rfl)
            obtain ⟨y12, f80⟩ : ∃ y, T.getD 80 undef = y := ⟨_, rfl⟩
            have hd12 : ph5 B3 bI oI c3 X3 A5 c5 A2 c2 12 y12 W := by rw [← f80]; exact hdep 12 (by omega) (by kernel_rfl)
            obtain rfl : y13 = .pointer (some ⟨B3, 5, none⟩) := hd13
            obtain rfl : y12 = .bool false := hd12
            obtain ⟨l0, l1, l2, l3, l4, l5, l6, l7⟩ := blk8c (M4.out.go hb).x
            have g81 := f81
            rw [Array.getD_eq_getD_getElem?] at g81
            have g80 := f80
            rw [Array.getD_eq_getD_getElem?] at g80
            clear hdep hT
            refine wpList_guard (wanted_false (j := 12) (d := 80) rfl (by kernel_rfl) f80) rfl ?_
            go_wp2
            exact ⟨rfl, _, rfl, Below.refl _ _, rfl⟩
          · cases ho
            obtain ⟨y14, f82⟩ : ∃ y, T.getD 82 undef = y := ⟨_, rfl⟩
            have hd14 : ph5 B3 bI oI c3 X3 A5 c5 A2 c2 14 y14 W := by rw [← f82]; exact hdep 14 (by omega) (by kernel_rfl)
            obtain ⟨y12, f80⟩ : ∃ y, T.getD 80 undef = y := ⟨_, rfl⟩
            have hd12 : ph5 B3 bI oI c3 X3 A5 c5 A2 c2 12 y12 W := by rw [← f80]; exact hdep 12 (by omega) (by kernel_rfl)
            obtain rfl : y14 = .slice (some ⟨bI, oI, none⟩) 2 c3 := hd14
            obtain rfl : y12 = .bool false := hd12
            have g82 := f82
            rw [Array.getD_eq_getD_getElem?] at g82
            have g80 := f80
            rw [Array.getD_eq_getD_getElem?] at g80
            clear hdep hT
            refine wpList_guard (wanted_false (j := 12) (d := 80) rfl (by kernel_rfl) f80) rfl ?_
            go_wp2
            exact ⟨rfl, _, rfl, Below.refl _ _, rfl⟩
          · cases ho
            obtain ⟨y15, f83⟩ : ∃ y, T.getD 83 undef = y := ⟨_, rfl⟩
            have hd15 : ph5 B3 bI oI c3 X3 A5 c5 A2 c2 15 y15 W := by rw [← f83]; exact hdep 15 (by omega) (by kernel_rfl)
            obtain ⟨y12, f80⟩ : ∃ y, T.getD 80 undef = y := ⟨_, rfl⟩
            have hd12 : ph5 B3 bI oI c3 X3 A5 c5 A2 c2 12 y12 W := by rw [← f80]; exact hdep 12 (by omega) (by kernel_rfl)
            obtain rfl : y15 = .pointer (some ⟨bI, oI, none⟩) := hd15
            obtain rfl : y12 = .bool false := hd12
            have g83 := f83
            rw [Array.getD_eq_getD_getElem?] at g83
            have g80 := f80
            rw [Array.getD_eq_getD_getElem?] at g80
            clear hdep hT
            refine wpList_guard (wanted_false (j := 12) (d := 80) rfl (by kernel_rfl) f80) rfl ?_
            go_wp2
            exact ⟨rfl, _, rfl, Below.refl _ _, rfl⟩
          · cases ho
            obtain ⟨y16, f84⟩ : ∃ y, T.getD 84 undef = y := ⟨_, rfl⟩
            have hd16 : ph5 B3 bI oI c3 X3 A5 c5 A2 c2 16 y16 W := by rw [← f84]; exact hdep 16 (by omega) (by kernel_rfl)
            obtain ⟨y12, f80⟩ : ∃ y, T.getD 80 undef = y := ⟨_, rfl⟩
            have hd12 : ph5 B3 bI oI c3 X3 A5 c5 A2 c2 12 y12 W := by rw [← f80]; exact hdep 12 (by omega) (by kernel_rfl)
            obtain rfl : y16 = .pointer (some ⟨bI, oI, none⟩) := hd16
            obtain rfl : y12 = .bool false := hd12
            obtain ⟨g0, g1, g2⟩ := HG.out W hb
            have g84 := f84
            rw [Array.getD_eq_getD_getElem?] at g84
            have g80 := f80
            rw [Array.getD_eq_getD_getElem?] at g80
            clear hdep hT
            refine wpList_guard (wanted_false (j := 12) (d := 80) rfl (by kernel_rfl) f80) rfl ?_
            go_wp2
            exact ⟨rfl, _, rfl, Below.refl _ _, rfl⟩
          · cases ho
            obtain ⟨y12, f80⟩ : ∃ y, T.getD 80 undef = y := ⟨_, rfl⟩
            have hd12 : ph5 B3 bI oI c3 X3 A5 c5 A2 c2 12 y12 W := by rw [← f80]; exact hdep 12 (by omega) (by kernel_rfl)
            obtain rfl : y12 = .bool false := hd12
            have g80 := f80
            rw [Array.getD_eq_getD_getElem?] at g80
            clear hdep hT
            refine wpList_guard (wanted_false (j := 12) (d := 80) rfl (by kernel_rfl) f80) rfl ?_
            go_wp2_with fail
            refine (number_any _ _).mono ?_
            rintro e w1 ⟨rfl, hb1⟩
            go_wp2
            exact ⟨rfl, _, rfl, hb1, rfl⟩
          · cases ho
            obtain ⟨y17, f85⟩ : ∃ y, T.getD 85 undef = y := ⟨_, rfl⟩
            have hd17 : ph5 B3 bI oI c3 X3 A5 c5 A2 c2 17 y17 W := by rw [← f85]; exact hdep 17 (by omega) (by kernel_rfl)
            obtain ⟨y18, f86⟩ : ∃ y, T.getD 86 undef = y := ⟨_, rfl⟩
            have hd18 : ph5 B3 bI oI c3 X3 A5 c5 A2 c2 18 y18 W := by rw [← f86]; exact hdep 18 (by omega) (by kernel_rfl)
            obtain ⟨y12, f80⟩ : ∃ y, T.getD 80 undef = y := ⟨_, rfl⟩
            have hd12 : ph5 B3 bI oI c3 X3 A5 c5 A2 c2 12 y12 W := by rw [← f80]; exact hdep 12 (by omega) (by kernel_rfl)
            obtain rfl : y17 = .agg #[.int .i64 3, .string d1] := hd17
            obtain rfl : y18 = .agg #[.int .i64 3, .string d1] := hd18
            obtain rfl : y12 = .bool false := hd12
            have g85 := f85
            rw [Array.getD_eq_getD_getElem?] at g85
            have g86 := f86
            rw [Array.getD_eq_getD_getElem?] at g86
            have g80 := f80
            rw [Array.getD_eq_getD_getElem?] at g80
            clear hdep hT
            refine wpList_guard (wanted_false (j := 12) (d := 80) rfl (by kernel_rfl) f80) rfl ?_
            go_wp2
            exact ⟨rfl, _, rfl, Below.refl _ _, rfl⟩
          · cases ho
            obtain ⟨y12, f80⟩ : ∃ y, T.getD 80 undef = y := ⟨_, rfl⟩
            have hd12 : ph5 B3 bI oI c3 X3 A5 c5 A2 c2 12 y12 W := by rw [← f80]; exact hdep 12 (by omega) (by kernel_rfl)
            obtain ⟨y19, f87⟩ : ∃ y, T.getD 87 undef = y := ⟨_, rfl⟩
            have hd19 : ph5 B3 bI oI c3 X3 A5 c5 A2 c2 19 y19 W := by rw [← f87]; exact hdep 19 (by omega) (by kernel_rfl)
            obtain rfl : y12 = .bool false := hd12
            obtain rfl : y19 = .bool false := hd19
            have g80 := f80
            rw [Array.getD_eq_getD_getElem?] at g80
            have g87 := f87
            rw [Array.getD_eq_getD_getElem?] at g87
            clear hdep hT
            go_wp2
            exact ⟨rfl, _, rfl, Below.refl _ _, rfl⟩
          · cases ho
            obtain ⟨y20, f88⟩ : ∃ y, T.getD 88 undef = y := ⟨_, rfl⟩
            have hd20 : ph5 B3 bI oI c3 X3 A5 c5 A2 c2 20 y20 W := by rw [← f88]; exact hdep 20 (by omega) (by kernel_rfl)
            obtain rfl : y20 = .bool false := hd20
            have g88 := f88
            rw [Array.getD_eq_getD_getElem?] at g88
            clear hdep hT
            go_wp2
            exact ⟨rfl, _, rfl, Below.refl _ _, rfl⟩
          · cases ho
            obtain ⟨y21, f89⟩ : ∃ y, T.getD 89 undef = y := ⟨_, rfl⟩
            have hd21 : ph5 B3 bI oI c3 X3 A5 c5 A2 c2 21 y21 W := by rw [← f89]; exact hdep 21 (by omega) (by kernel_rfl)
            have f3 : T.getD 3 undef = .pointer (some ⟨B3, 0, none⟩) := (hT 3 (by decide)).trans (by kernel_rfl)
            obtain rfl : y21 = .bool false := hd21
            have g89 := f89
            rw [Array.getD_eq_getD_getElem?] at g89
            have g3 := f3
            rw [Array.getD_eq_getD_getElem?] at g3
            clear hdep hT
            refine wpList_guard (wanted_false (j := 21) (d := 89) rfl (by kernel_rfl) f89) rfl ?_
            go_wp2
            exact ⟨rfl, _, rfl, Below.refl _ _, rfl⟩
          · cases ho
            obtain ⟨y22, f90⟩ : ∃ y, T.getD 90 undef = y := ⟨_, rfl⟩
            have hd22 : ph5 B3 bI oI c3 X3 A5 c5 A2 c2 22 y22 W := by rw [← f90]; exact hdep 22 (by omega) (by kernel_rfl)
            obtain ⟨y21, f89⟩ : ∃ y, T.getD 89 undef = y := ⟨_, rfl⟩
            have hd21 : ph5 B3 bI oI c3 X3 A5 c5 A2 c2 21 y21 W := by rw [← f89]; exact hdep 21 (by omega) (by kernel_rfl)
            obtain rfl : y22 = .pointer (some ⟨B3, 5, none⟩) := hd22
            obtain rfl : y21 = .bool false := hd21
            obtain ⟨l0, l1, l2, l3, l4, l5, l6, l7⟩ := blk8c (M4.out.go hb).x
            have g90 := f90
            rw [Array.getD_eq_getD_getElem?] at g90
            have g89 := f89
            rw [Array.getD_eq_getD_getElem?] at g89
            clear hdep hT
            refine wpList_guard (wanted_false (j := 21) (d := 89) rfl (by kernel_rfl) f89) rfl ?_
            go_wp2
            exact ⟨rfl, _, rfl, Below.refl _ _, rfl⟩
          · cases ho
            obtain ⟨y23, f91⟩ : ∃ y, T.getD 91 undef = y := ⟨_, rfl⟩
            have hd23 : ph5 B3 bI oI c3 X3 A5 c5 A2 c2 23 y23 W := by rw [← f91]; exact hdep 23 (by omega) (by kernel_rfl)
            obtain ⟨y21, f89⟩ : ∃ y, T.getD 89 undef = y := ⟨_, rfl⟩
            have hd21 : ph5 B3 bI oI c3 X3 A5 c5 A2 c2 21 y21 W := by rw [← f89]; exact hdep 21 (by omega) (by kernel_rfl)
            obtain rfl : y23 = .slice (some ⟨bI, oI, none⟩) 2 c3 := hd23
            obtain rfl : y21 = .bool false := hd21
            have g91 := f91
            rw [Array.getD_eq_getD_getElem?] at g91
            have g89 := f89
            rw [Array.getD_eq_getD_getElem?] at g89
            clear hdep hT
            refine wpList_guard (wanted_false (j := 21) (d := 89) rfl (by kernel_rfl) f89) rfl ?_
            go_wp2
            exact ⟨rfl, _, rfl, Below.refl _ _, rfl⟩
          · cases ho
            obtain ⟨y24, f92⟩ : ∃ y, T.getD 92 undef = y := ⟨_, rfl⟩
            have hd24 : ph5 B3 bI oI c3 X3 A5 c5 A2 c2 24 y24 W := by rw [← f92]; exact hdep 24 (by omega) (by kernel_rfl)
            obtain ⟨y21, f89⟩ : ∃ y, T.getD 89 undef = y := ⟨_, rfl⟩
            have hd21 : ph5 B3 bI oI c3 X3 A5 c5 A2 c2 21 y21 W := by rw [← f89]; exact hdep 21 (by omega) (by kernel_rfl)
            obtain rfl : y24 = .pointer (some ⟨bI, oI, none⟩) := hd24
            obtain rfl : y21 = .bool false := hd21
            have g92 := f92
            rw [Array.getD_eq_getD_getElem?] at g92
            have g89 := f89
            rw [Array.getD_eq_getD_getElem?] at g89
            clear hdep hT
            refine wpList_guard (wanted_false (j := 21) (d := 89) rfl (by kernel_rfl) f89) rfl ?_
            go_wp2
            exact ⟨rfl, _, rfl, Below.refl _ _, rfl⟩
          · cases ho
            obtain ⟨y25, f93⟩ : ∃ y, T.getD 93 undef = y := ⟨_, rfl⟩
            have hd25 : ph5 B3 bI oI c3 X3 A5 c5 A2 c2 25 y25 W := by rw [← f93]; exact hdep 25 (by omega) (by kernel_rfl)
            obtain ⟨y21, f89⟩ : ∃ y, T.getD 89 undef = y := ⟨_, rfl⟩
            have hd21 : ph5 B3 bI oI c3 X3 A5 c5 A2 c2 21 y21 W := by rw [← f89]; exact hdep 21 (by omega) (by kernel_rfl)
            obtain rfl : y25 = .pointer (some ⟨bI, oI + 2, none⟩) := hd25
            obtain rfl : y21 = .bool false := hd21
            obtain ⟨g0, g1, g2⟩ := HG.out W hb
            have g93 := f93
            rw [Array.getD_eq_getD_getElem?] at g93
            have g89 := f89
            rw [Array.getD_eq_getD_getElem?] at g89
            clear hdep hT
            refine wpList_guard (wanted_false (j := 21) (d := 89) rfl (by kernel_rfl) f89) rfl ?_
            go_wp2
            exact ⟨rfl, _, rfl, Below.refl _ _, rfl⟩
          · cases ho
            obtain ⟨y21, f89⟩ : ∃ y, T.getD 89 undef = y := ⟨_, rfl⟩
            have hd21 : ph5 B3 bI oI c3 X3 A5 c5 A2 c2 21 y21 W := by rw [← f89]; exact hdep 21 (by omega) (by kernel_rfl)
            obtain rfl : y21 = .bool false := hd21
            have g89 := f89
            rw [Array.getD_eq_getD_getElem?] at g89
            clear hdep hT
            refine wpList_guard (wanted_false (j := 21) (d := 89) rfl (by kernel_rfl) f89) rfl ?_
            go_wp2_with fail
            refine (txt_tx _ _).mono ?_
            rintro e w1 ⟨⟨X, rfl, hX, _⟩, hb1⟩
            go_wp2
            exact ⟨rfl, _, rfl, hb1, X, rfl, hX⟩
          · cases ho
            obtain ⟨y26, f94⟩ : ∃ y, T.getD 94 undef = y := ⟨_, rfl⟩
            have hd26 : ph5 B3 bI oI c3 X3 A5 c5 A2 c2 26 y26 W := by rw [← f94]; exact hdep 26 (by omega) (by kernel_rfl)
            obtain ⟨y21, f89⟩ : ∃ y, T.getD 89 undef = y := ⟨_, rfl⟩
            have hd21 : ph5 B3 bI oI c3 X3 A5 c5 A2 c2 21 y21 W := by rw [← f89]; exact hdep 21 (by omega) (by kernel_rfl)
            obtain ⟨y27, f95⟩ : ∃ y, T.getD 95 undef = y := ⟨_, rfl⟩
            have hd27 : ph5 B3 bI oI c3 X3 A5 c5 A2 c2 27 y27 W := by rw [← f95]; exact hdep 27 (by omega) (by kernel_rfl)
            obtain rfl : y26 = sl1 X3 := hd26
            obtain rfl : y21 = .bool false := hd21
            obtain ⟨X, rfl, hX⟩ : ∃ X, y27 = sl1 X ∧ TX W X sa := hd27
            have g94 := f94
            rw [Array.getD_eq_getD_getElem?] at g94
            have g89 := f89
            rw [Array.getD_eq_getD_getElem?] at g89
            have g95 := f95
            rw [Array.getD_eq_getD_getElem?] at g95
            clear hdep hT
            refine wpList_guard (wanted_false (j := 21) (d := 89) rfl (by kernel_rfl) f89) rfl ?_
            go_wp2_with fail
            refine (sameT (T4.out.go hb) hX).mono ?_
            rintro e w1 ⟨rfl, hb1⟩
            go_wp2
            exact ⟨rfl, _, rfl, hb1, rfl⟩
          · cases ho
            obtain ⟨y28, f96⟩ : ∃ y, T.getD 96 undef = y := ⟨_, rfl⟩
            have hd28 : ph5 B3 bI oI c3 X3 A5 c5 A2 c2 28 y28 W := by rw [← f96]; exact hdep 28 (by omega) (by kernel_rfl)
            obtain ⟨y21, f89⟩ : ∃ y, T.getD 89 undef = y := ⟨_, rfl⟩
            have hd21 : ph5 B3 bI oI c3 X3 A5 c5 A2 c2 21 y21 W := by rw [← f89]; exact hdep 21 (by omega) (by kernel_rfl)
            obtain rfl : y28 = .bool true := hd28
            obtain rfl : y21 = .bool false := hd21
            have g96 := f96
            rw [Array.getD_eq_getD_getElem?] at g96
            have g89 := f89
            rw [Array.getD_eq_getD_getElem?] at g89
            clear hdep hT
            refine wpList_guard (wanted_false (j := 21) (d := 89) rfl (by kernel_rfl) f89) rfl ?_
            go_wp2
            exact ⟨rfl, _, rfl, Below.refl _ _, rfl⟩
          · cases ho
            obtain ⟨y21, f89⟩ : ∃ y, T.getD 89 undef = y := ⟨_, rfl⟩
            have hd21 : ph5 B3 bI oI c3 X3 A5 c5 A2 c2 21 y21 W := by rw [← f89]; exact hdep 21 (by omega) (by kernel_rfl)
            obtain ⟨y29, f97⟩ : ∃ y, T.getD 97 undef = y := ⟨_, rfl⟩
            have hd29 : ph5 B3 bI oI c3 X3 A5 c5 A2 c2 29 y29 W := by rw [← f97]; exact hdep 29 (by omega) (by kernel_rfl)
            obtain rfl : y21 = .bool false := hd21
            obtain rfl : y29 = .bool false := hd29
            have g89 := f89
            rw [Array.getD_eq_getD_getElem?] at g89
            have g97 := f97
            rw [Array.getD_eq_getD_getElem?] at g97
            clear hdep hT
            go_wp2
            exact ⟨rfl, _, rfl, Below.refl _ _, rfl⟩
          · cases ho
            obtain ⟨y30, f98⟩ : ∃ y, T.getD 98 undef = y := ⟨_, rfl⟩
            have hd30 : ph5 B3 bI oI c3 X3 A5 c5 A2 c2 30 y30 W := by rw [← f98]; exact hdep 30 (by omega) (by kernel_rfl)
            obtain rfl : y30 = .bool false := hd30
            have g98 := f98
            rw [Array.getD_eq_getD_getElem?] at g98
            clear hdep hT
            go_wp2
            exact ⟨rfl, _, rfl, Below.refl _ _, rfl⟩
          · cases ho
            obtain ⟨y31, f99⟩ : ∃ y, T.getD 99 undef = y := ⟨_, rfl⟩
            have hd31 : ph5 B3 bI oI c3 X3 A5 c5 A2 c2 31 y31 W := by rw [← f99]; exact hdep 31 (by omega) (by kernel_rfl)
            have f5 : T.getD 5 undef = .pointer (some ⟨B5, 0, none⟩) := (hT 5 (by decide)).trans (by kernel_rfl)
            obtain rfl : y31 = .bool false := hd31
            obtain ⟨l0, l1, l2, l3, l4, l5, l6, l7⟩ := blk8c (N4.out.go hb).x
            have g99 := f99
            rw [Array.getD_eq_getD_getElem?] at g99
            have g5 := f5
            rw [Array.getD_eq_getD_getElem?] at g5
            clear hdep hT
            refine wpList_guard (wanted_false (j := 31) (d := 99) rfl (by kernel_rfl) f99) rfl ?_
            go_wp2
            exact ⟨rfl, _, rfl, Below.refl _ _, rfl⟩
          · cases ho
            obtain ⟨y31, f99⟩ : ∃ y, T.getD 99 undef = y := ⟨_, rfl⟩
            have hd31 : ph5 B3 bI oI c3 X3 A5 c5 A2 c2 31 y31 W := by rw [← f99]; exact hdep 31 (by omega) (by kernel_rfl)
            have f2 : T.getD 2 undef = .pointer (some ⟨B2, 0, none⟩) := (hT 2 (by decide)).trans (by kernel_rfl)
            obtain rfl : y31 = .bool false := hd31
            obtain ⟨l0, l1, l2, l3, l4, l5, l6, l7⟩ := blk8c (S4.out.go hb).x2
            have g99 := f99
            rw [Array.getD_eq_getD_getElem?] at g99
            have g2 := f2
            rw [Array.getD_eq_getD_getElem?] at g2
            clear hdep hT
            refine wpList_guard (wanted_false (j := 31) (d := 99) rfl (by kernel_rfl) f99) rfl ?_
            go_wp2
            exact ⟨rfl, _, rfl, Below.refl _ _, rfl⟩
          · cases ho
            obtain ⟨y32, f100⟩ : ∃ y, T.getD 100 undef = y := ⟨_, rfl⟩
            have hd32 : ph5 B3 bI oI c3 X3 A5 c5 A2 c2 32 y32 W := by rw [← f100]; exact hdep 32 (by omega) (by kernel_rfl)
            obtain ⟨y33, f101⟩ : ∃ y, T.getD 101 undef = y := ⟨_, rfl⟩
            have hd33 : ph5 B3 bI oI c3 X3 A5 c5 A2 c2 33 y33 W := by rw [← f101]; exact hdep 33 (by omega) (by kernel_rfl)
            obtain ⟨y31, f99⟩ : ∃ y, T.getD 99 undef = y := ⟨_, rfl⟩
            have hd31 : ph5 B3 bI oI c3 X3 A5 c5 A2 c2 31 y31 W := by rw [← f99]; exact hdep 31 (by omega) (by kernel_rfl)
            obtain rfl : y32 = itV (mapR (.slice A5 2 c5)) := hd32
            obtain rfl : y33 = itV (mapR (.slice A2 2 c2)) := hd33
            obtain rfl : y31 = .bool false := hd31
            have g100 := f100
            rw [Array.getD_eq_getD_getElem?] at g100
            have g101 := f101
            rw [Array.getD_eq_getD_getElem?] at g101
            have g99 := f99
            rw [Array.getD_eq_getD_getElem?] at g99
            clear hdep hT
            refine wpList_guard (wanted_false (j := 31) (d := 99) rfl (by kernel_rfl) f99) rfl ?_
            go_wp2_with fail
            refine (sameK (N4.out.go hb).r (S4.out.go hb).r2 (S4.out.go hb).t1 (S4.out.go hb).t2).mono ?_
            rintro e w1 ⟨rfl, hb1⟩
            go_wp2
            exact ⟨rfl, _, rfl, hb1, rfl⟩
          · cases ho
            obtain ⟨y34, f102⟩ : ∃ y, T.getD 102 undef = y := ⟨_, rfl⟩
            have hd34 : ph5 B3 bI oI c3 X3 A5 c5 A2 c2 34 y34 W := by rw [← f102]; exact hdep 34 (by omega) (by kernel_rfl)
            obtain ⟨y31, f99⟩ : ∃ y, T.getD 99 undef = y := ⟨_, rfl⟩
            have hd31 : ph5 B3 bI oI c3 X3 A5 c5 A2 c2 31 y31 W := by rw [← f99]; exact hdep 31 (by omega) (by kernel_rfl)
            obtain rfl : y34 = .bool true := hd34
            obtain rfl : y31 = .bool false := hd31
            have g102 := f102
            rw [Array.getD_eq_getD_getElem?] at g102
            have g99 := f99
            rw [Array.getD_eq_getD_getElem?] at g99
            clear hdep hT
            refine wpList_guard (wanted_false (j := 31) (d := 99) rfl (by kernel_rfl) f99) rfl ?_
            go_wp2
            exact ⟨rfl, _, rfl, Below.refl _ _, rfl⟩
          · cases ho
            obtain ⟨y31, f99⟩ : ∃ y, T.getD 99 undef = y := ⟨_, rfl⟩
            have hd31 : ph5 B3 bI oI c3 X3 A5 c5 A2 c2 31 y31 W := by rw [← f99]; exact hdep 31 (by omega) (by kernel_rfl)
            obtain ⟨y35, f103⟩ : ∃ y, T.getD 103 undef = y := ⟨_, rfl⟩
            have hd35 : ph5 B3 bI oI c3 X3 A5 c5 A2 c2 35 y35 W := by rw [← f103]; exact hdep 35 (by omega) (by kernel_rfl)
            obtain rfl : y31 = .bool false := hd31
            obtain rfl : y35 = .bool false := hd35
            have g99 := f99
            rw [Array.getD_eq_getD_getElem?] at g99
            have g103 := f103
            rw [Array.getD_eq_getD_getElem?] at g103
            clear hdep hT
            go_wp2
            exact ⟨rfl, _, rfl, Below.refl _ _, rfl⟩
        · intro ys W hys hb hall
          obtain ⟨y0, y1, y2, y3, y4, y5, y6, y7, y8, y9, y10, y11, y12, y13, y14, y15, y16, y17, y18, y19, y20, y21, y22, y23, y24, y25, y26, y27, y28, y29, y30, y31, y32, y33, y34, y35, y36, rfl⟩ := list37 hys
          simp only [setM, List.setIfInBounds_toArray, List.set_cons_zero, List.set_cons_succ]
          obtain rfl : y36 = .bool false := hall 36 (by omega)
          clear hall
          simp only [List.drop_succ_cons, List.drop_zero, List.drop_nil]
          have B5' := Lib.hid (S4.out.go hb).b
          have HA5 := Lib.hid (S4.out.go hb).a1
          clear hb S4 M4 T4 N4 HG
          generalize W = W5 at *
          go_upto_region 7 with fail
          go_wp2_with fail
          refine (number_any _ _).mono ?_
          rintro e V1 ⟨rfl, hb1⟩
          have HC1 := Lib.hid hb1
          clear hb1
          go_wp2_with fail
          refine (txt_tx _ _).mono ?_
          rintro e V2 ⟨⟨X4, rfl, hX4, _⟩, hb2⟩
          have HC2 := Lib.hid (HC1.out.trans (hb2.mono HC1.out.size))
          have HX4 := Lib.hid hX4
          clear hb2 hX4 HC1
          simp only [sl1]
          go_wp2_with fail
          refine (number_any _ _).mono ?_
          rintro e V3 ⟨rfl, hb3⟩
          have HC3 := Lib.hid (HC2.out.trans (hb3.mono HC2.out.size))
          have HX4' := Lib.hid (HX4.out.go hb3)
          clear hb3 HX4 HC2
          go_wp2_with fail
          refine (txt_tx _ _).mono ?_
          rintro e V4 ⟨⟨X5, rfl, hX5, _⟩, hb4⟩
          have HC4 := Lib.hid (HC3.out.trans (hb4.mono HC3.out.size))
          have HX4 := Lib.hid (HX4'.out.go hb4)
          have HX5 := Lib.hid hX5
          clear hb4 hX5 HX4' HC3
          simp only [sl1]
          go_upto_region 8 with fail
          have hp6 := litp_two (W := V4) (p := ⟨3, d2, sl1 X4⟩) (q := ⟨3, d3, sl1 X5⟩)
          have hb6 := box1 V4 33 #[.int .i64 3, .string { data := #[50] }, .slice (some ⟨X4, 0, none⟩) 1 1, .int .i64 3, .string { data := #[51] }, .slice (some ⟨X5, 0, none⟩) 1 1]
          have hz6 : (V4.alloc (.cells #[.int .i64 3, .string { data := #[50] }, .slice (some ⟨X4, 0, none⟩) 1 1, .int .i64 3, .string { data := #[51] }, .slice (some ⟨X5, 0, none⟩) 1 1] 33)).heap.size = V4.heap.size + 1 := by simp
          obtain ⟨W6, hW6⟩ : ∃ W6, V4.alloc (.cells #[.int .i64 3, .string { data := #[50] }, .slice (some ⟨X4, 0, none⟩) 1 1, .int .i64 3, .string { data := #[51] }, .slice (some ⟨X5, 0, none⟩) 1 1] 33) = W6 := ⟨_, rfl⟩
          have hp6' : RdP W6 (nL X4 X5) (.slice (some ⟨V4.heap.size, 0, none⟩) 2 2) := by rw [← hW6]; exact hp6
          rw [hW6] at hb6 hz6 ⊢
          clear hp6 hW6
          obtain ⟨W7, hW7⟩ : ∃ W7, W6.alloc (.cells #[.int .i64 2, .int .i64 0, .string { data := #[] }, .int .i64 0, .int .i64 0, .slice (some ⟨V4.heap.size, 0, none⟩) 2 2, .slice none 0 0, .pointer none] 30) = W7 := ⟨_, rfl⟩
          have hb7 : Below W6.heap.size W6 W7 := hW7 ▸ box1 _ _ _
          have hx7 : BI W7 (V4.heap.size + 1) (mapR (.slice (some ⟨V4.heap.size, 0, none⟩) 2 2)) := by rw [← hW7]; exact hp_new hz6
          rw [hW7]
          have hb67 : Below V4.heap.size V4 W7 := hb6.trans (hb7.mono (by omega))
          have S7 := Lib.hid (show K7 w W7 B1 (V4.heap.size + 1) X4 X5 (.slice (some ⟨V4.heap.size, 0, none⟩) 2 2) from ⟨B5'.out.trans ((HC4.out.trans (hb67.mono HC4.out.size)).mono B5'.out.size), (HA5.out.go HC4.out).go hb67, ⟨hx7, RdRows.below hp6' hb7⟩, HX4.out.go hb67, HX5.out.go hb67⟩)
          clear hp6' hb6 hz6 hW7 hb7 hx7 hb67 B5' HA5 HC4 HX4 HX5
          generalize V4.heap.size + 1 = B7 at *
          generalize V4.heap.size = Q7 at *
          obtain ⟨V7, rfl⟩ : ∃ V7 : World, V7 = W7 := ⟨_, rfl⟩
          go_upto_region 11 with fail
          obtain ⟨W8, hW8⟩ : ∃ W8, ((V7.alloc (.cells #[.string { data := #[102, 105, 114, 115, 116] }, .string { data := #[108, 97, 115, 116] }, .string { data := #[99, 111, 109, 98, 105, 110, 101] }] 9)).alloc (.cells #[.int .i64 1, .int .i64 1, .int .i64 2] 3)).alloc (.cells #[.string { data := #[98] }, .string { data := #[99] }, .string { data := #[98] }] 9) = W8 := ⟨_, rfl⟩
          have hb8 : Below V7.heap.size V7 W8 := hW8 ▸ (((Below.refl _ _).alloc (Nat.le_refl _) _).alloc (by simp <;> omega) _).alloc (by simp <;> omega) _
          have S8 := Lib.hid (And.intro (S7.out.go hb8) (show KL W8 V7.heap.size (V7.heap.size + 1) (V7.heap.size + 1 + 1) from ⟨hW8 ▸ hp_past (hp_past (hp_new rfl)), hW8 ▸ hp_past (hp_new (by simp)), hW8 ▸ hp_new (by simp)⟩))
          rw [hW8]
          clear hW8 hb8 S7
          generalize V7.heap.size + 1 + 1 = C10 at *
          generalize V7.heap.size + 1 = C9 at *
          generalize V7.heap.size = C8 at *
          go_wp2
          go_loopw [11] (fun ix wr => ∃ j : Nat, j ≤ 3 ∧ ix = .int .i64 j ∧ Hid (K7 w wr B1 B7 X4 X5 (.slice (some ⟨Q7, 0, none⟩) 2 2) ∧ KL wr C8 C9 C10)) (fun ix _ => 3 - (intOf ix).toNat)
          case atStart => exact ⟨0, Nat.zero_le _, rfl, S8⟩
          case round =>
            obtain ⟨j, hj, rfl, HR⟩ := hrel
            clear S8
            by_cases hlt : j < 3
            · have hji : ((j : Nat) : Int) < 3 := by omega
              go_wp2_with fail
              refine wp_region_drawnF2 (by kernel_rfl) 12 374 [121, 122, 123, 124, 125, 126, 127, 128, 120, 129, 130, 12] [10] (ph14 wr.heap.size C8 j Q7) rfl (by kernel_rfl) (ph14m _ _ _ _) ?_ ?_ ?_ ?_
              · intro T hT i o hi ho W hb hdep
                have hi' : i = 0 ∨ i = 1 ∨ i = 2 ∨ i = 3 ∨ i = 4 ∨ i = 5 ∨ i = 6 ∨ i = 7 ∨ i = 8 ∨ i = 9 ∨ i = 10 ∨ i = 11 := by omega
                clear hi
                rcases hi' with rfl | rfl | rfl | rfl | rfl | rfl | rfl | rfl | rfl | rfl | rfl | rfl
                · cases ho
                  clear hdep hT
                  go_wp2_with fail
                  refine (twoK _).mono ?_
                  rintro e w1 ⟨⟨u, Y1, Y2, rfl, hr, h1, h2, h3⟩, hb1⟩
                  go_wp2
                  exact ⟨rfl, _, rfl, hb1, u, Y1, Y2, rfl, hr, h1, h2, Nat.le_trans hb.size h3⟩
                · cases ho
                  have f7 : T.getD 7 undef = .pointer (some ⟨B7, 0, none⟩) := (hT 7 (by decide)).trans (by kernel_rfl)
                  obtain ⟨l0, l1, l2, l3, l4, l5, l6, l7⟩ := blk8c (HR.out.1.go hb).n.x
                  have g7 := f7
                  rw [Array.getD_eq_getD_getElem?] at g7
                  clear hdep hT
                  go_wp2
                  exact ⟨rfl, _, rfl, Below.refl _ _, rfl⟩
                · cases ho
                  obtain ⟨y1, f122⟩ : ∃ y, T.getD 122 undef = y := ⟨_, rfl⟩
                  have hd1 : ph14 wr.heap.size C8 j Q7 false 1 y1 W := by rw [← f122]; exact hdep 1 (by omega) (by kernel_rfl)
                  obtain ⟨y0, f121⟩ : ∃ y, T.getD 121 undef = y := ⟨_, rfl⟩
                  have hd0 : ph14 wr.heap.size C8 j Q7 false 0 y0 W := by rw [← f121]; exact hdep 0 (by omega) (by kernel_rfl)
                  obtain rfl : y1 = itV (mapR (.slice (some ⟨Q7, 0, none⟩) 2 2)) := hd1
                  obtain ⟨u, Y1, Y2, rfl, hr, h1, h2, h3⟩ : ∃ u Y1 Y2, y0 = itV (mapR u) ∧ RdP W (mapL Y1 Y2) u ∧ TX W Y1 sa ∧ TX W Y2 sb ∧ wr.heap.size ≤ Y2 := hd0
                  obtain ⟨Au, cu, eu, _⟩ := RdP.form hr
                  obtain rfl : u = .slice Au 2 cu := eu
                  try simp only [itV, mapR] at f122
                  try simp only [itV, mapR] at f121
                  have g122 := f122
                  rw [Array.getD_eq_getD_getElem?] at g122
                  have g121 := f121
                  rw [Array.getD_eq_getD_getElem?] at g121
                  clear hdep hT
                  go_wp2
                  exact ⟨rfl, _, rfl, box1 _ _ _, .slice Au 2 cu, Y1, Y2, lite_two (x := mapR (.slice Au 2 cu)) (y := mapR (.slice (some ⟨Q7, 0, none⟩) 2 2)), RdRows.below hr (box1 _ _ _), h1.go (box1 _ _ _), h2.go (box1 _ _ _), h3⟩
                · cases ho
                  have f8 : T.getD 8 undef = .slice (some ⟨C8, 0, none⟩) 3 3 := (hT 8 (by decide)).trans (by kernel_rfl)
                  have g8 := f8
                  rw [Array.getD_eq_getD_getElem?] at g8
                  clear hdep hT
                  go_wp2
                  exact ⟨rfl, _, rfl, Below.refl _ _, rfl⟩
                · cases ho
                  have f11 : T.getD 11 undef = .int .i64 (j : Int) := (hT 11 (by decide)).trans (by kernel_rfl)
                  have g11 := f11
                  rw [Array.getD_eq_getD_getElem?] at g11
                  clear hdep hT
                  go_wp2
                  exact ⟨rfl, _, rfl, Below.refl _ _, rfl⟩
                · cases ho
                  obtain ⟨y3, f124⟩ : ∃ y, T.getD 124 undef = y := ⟨_, rfl⟩
                  have hd3 : ph14 wr.heap.size C8 j Q7 false 3 y3 W := by rw [← f124]; exact hdep 3 (by omega) (by kernel_rfl)
                  obtain ⟨y4, f125⟩ : ∃ y, T.getD 125 undef = y := ⟨_, rfl⟩
                  have hd4 : ph14 wr.heap.size C8 j Q7 false 4 y4 W := by rw [← f125]; exact hdep 4 (by omega) (by kernel_rfl)
                  obtain rfl : y3 = .slice (some ⟨C8, 0, none⟩) 3 3 := hd3
                  obtain rfl : y4 = .int .i64 (j : Int) := hd4
                  have g124 := f124
                  rw [Array.getD_eq_getD_getElem?] at g124
                  have g125 := f125
                  rw [Array.getD_eq_getD_getElem?] at g125
                  clear hdep hT
                  go_wp2
                  exact ⟨rfl, _, rfl, Below.refl _ _, rfl⟩
                · cases ho
                  obtain ⟨y5, f126⟩ : ∃ y, T.getD 126 undef = y := ⟨_, rfl⟩
                  have hd5 : ph14 wr.heap.size C8 j Q7 false 5 y5 W := by rw [← f126]; exact hdep 5 (by omega) (by kernel_rfl)
                  obtain rfl : y5 = .pointer (some ⟨C8, j, none⟩) := hd5
                  obtain ⟨l0, l1, l2⟩ := (HR.out.2.go hb).at j hlt
                  have g126 := f126
                  rw [Array.getD_eq_getD_getElem?] at g126
                  clear hdep hT
                  go_wp2
                  exact ⟨rfl, _, rfl, Below.refl _ _, rfl⟩
                · cases ho
                  obtain ⟨y6, f127⟩ : ∃ y, T.getD 127 undef = y := ⟨_, rfl⟩
                  have hd6 : ph14 wr.heap.size C8 j Q7 false 6 y6 W := by rw [← f127]; exact hdep 6 (by omega) (by kernel_rfl)
                  obtain ⟨y2, f123⟩ : ∃ y, T.getD 123 undef = y := ⟨_, rfl⟩
                  have hd2 : ph14 wr.heap.size C8 j Q7 false 2 y2 W := by rw [← f123]; exact hdep 2 (by omega) (by kernel_rfl)
                  obtain rfl : y6 = .string (hwK j) := hd6
                  obtain ⟨u, Y1, Y2, hv, hr, h1, h2, h3⟩ : ∃ u Y1 Y2, RdI W [mapR u, mapR (.slice (some ⟨Q7, 0, none⟩) 2 2)] y2 ∧ RdP W (mapL Y1 Y2) u ∧ TX W Y1 sa ∧ TX W Y2 sb ∧ wr.heap.size ≤ Y2 := hd2
                  have hne : Y2 ≠ X4 := fun e => by have := HR.out.1.t4.2; omega
                  have g127 := f127
                  rw [Array.getD_eq_getD_getElem?] at g127
                  have g123 := f123
                  rw [Array.getD_eq_getD_getElem?] at g123
                  clear hdep hT
                  go_wp2_with fail
                  refine (mergeI j hlt W hne hv hr (HR.out.1.go hb).n.r h1 h2 (HR.out.1.go hb).t4 (HR.out.1.go hb).t5).mono ?_
                  rintro e w1 ⟨A, c, v1, A2, c2, v3, rfl, m1, m2, hb1⟩
                  go_wp2
                  exact ⟨rfl, _, rfl, hb1, _, rfl, A, c, v1, A2, c2, v3, rfl, m1, m2⟩
                · cases ho
                  obtain ⟨y7, f128⟩ : ∃ y, T.getD 128 undef = y := ⟨_, rfl⟩
                  have hd7 : ph14 wr.heap.size C8 j Q7 false 7 y7 W := by rw [← f128]; exact hdep 7 (by omega) (by kernel_rfl)
                  obtain ⟨x, rfl, hx⟩ : ∃ x, y7 = .tuple #[x, .int .i64 0] ∧ MX j W x := hd7
                  have g128 := f128
                  rw [Array.getD_eq_getD_getElem?] at g128
                  clear hdep hT
                  go_wp2
                  exact ⟨rfl, _, rfl, Below.refl _ _, x, rfl, hx⟩
                · cases ho
                  obtain ⟨y8, f120⟩ : ∃ y, T.getD 120 undef = y := ⟨_, rfl⟩
                  have hd8 : ph14 wr.heap.size C8 j Q7 false 8 y8 W := by rw [← f120]; exact hdep 8 (by omega) (by kernel_rfl)
                  obtain ⟨x, rfl, hx⟩ : ∃ x, y8 = .tuple #[x, .int .i64 0] ∧ MX j W x := hd8
                  have g120 := f120
                  rw [Array.getD_eq_getD_getElem?] at g120
                  clear hdep hT
                  go_wp2
                  exact ⟨rfl, _, rfl, Below.refl _ _, hx⟩
                · cases ho
                  obtain ⟨y8, f120⟩ : ∃ y, T.getD 120 undef = y := ⟨_, rfl⟩
                  have hd8 : ph14 wr.heap.size C8 j Q7 false 8 y8 W := by rw [← f120]; exact hdep 8 (by omega) (by kernel_rfl)
                  obtain ⟨x, rfl, hx⟩ : ∃ x, y8 = .tuple #[x, .int .i64 0] ∧ MX j W x := hd8
                  have g120 := f120
                  rw [Array.getD_eq_getD_getElem?] at g120
                  clear hdep hT
                  go_wp2
                  exact ⟨rfl, _, rfl, Below.refl _ _, rfl⟩
                · cases ho
                  clear hdep hT
                  go_wp2
                  exact ⟨rfl, _, rfl, box1 _ _ _, _, rfl, hp_new rfl, hb.size⟩
              · intro T hT i o hl hi ho W hb hdep
                have hi' : i = 10 := by simpa using hl
                clear hl hi
                rcases hi' with rfl
                · cases ho
                  obtain ⟨y8, f120⟩ : ∃ y, T.getD 120 undef = y := ⟨_, rfl⟩
                  have hd8 : ph14 wr.heap.size C8 j Q7 true 8 y8 W := by rw [← f120]; exact hdep 8 (by omega) (by kernel_rfl)
                  obtain ⟨x, rfl, hx⟩ : ∃ x, y8 = .tuple #[x, .int .i64 0] ∧ MX j W x := hd8
                  have g120 := f120
                  rw [Array.getD_eq_getD_getElem?] at g120
                  clear hdep hT
                  go_wp2
                  exact ⟨rfl, _, rfl, Below.refl _ _, rfl⟩
              · intro T hT o ho W hb hdep
                cases ho
                obtain ⟨y9, f129⟩ : ∃ y, T.getD 129 undef = y := ⟨_, rfl⟩
                have hd9 : ph14 wr.heap.size C8 j Q7 false 9 y9 W := by rw [← f129]; exact hdep 9 (by omega) (by kernel_rfl)
                obtain ⟨y11, f12⟩ : ∃ y, T.getD 12 undef = y := ⟨_, rfl⟩
                have hd11 : ph14 wr.heap.size C8 j Q7 false 11 y11 W := by rw [← f12]; exact hdep 11 (by omega) (by kernel_rfl)
                have hm : MX j W y9 := hd9
                obtain ⟨x, rfl, hx⟩ := hm.ok
                obtain ⟨B12, rfl, hz12, hl12⟩ : NewB wr.heap.size y11 W := hd11
                refine wpList_putB rfl (.tmp 12) (.tmp 129) rfl rfl B12 x f12 f129 hz12 hx ?_
                refine ⟨rfl, rfl, putB_below hb hl12, fun j' hj' h => ?_⟩
                match j', hj', h with
                | 0, _, h => exact trivial
                | 1, _, h => exact h
                | 2, _, h => exact trivial
                | 3, _, h => exact h
                | 4, _, h => exact h
                | 5, _, h => exact h
                | 6, _, h => exact h
                | 7, _, h => exact (let ⟨x, e, h⟩ := h; ⟨x, e, h.put hz12⟩)
                | 8, _, h => exact (let ⟨x, e, h⟩ := h; ⟨x, e, h.put hz12⟩)
                | 9, _, h => exact trivial
                | 10, _, h => exact h
                | 11, _, h => exact (show ph14 wr.heap.size C8 j Q7 true 11 (T.getD 12 undef) _ from by rw [f12]; exact ⟨_, _, rfl, putB_bi hz12, hm.put hz12⟩)
              · intro ys W hys hb hall
                obtain ⟨y0, y1, y2, y3, y4, y5, y6, y7, y8, y9, y10, y11, rfl⟩ := list12 hys
                simp only [setM, List.setIfInBounds_toArray, List.set_cons_zero, List.set_cons_succ]
                obtain rfl : y10 = .int .i64 0 := hall 10 (by omega)
                obtain ⟨B12, r12, rfl, hx12, hm12⟩ : MB j W y11 := hall 11 (by omega)
                obtain ⟨A12, c12, v1, A2, c2, v3, e12, hr12, hi12⟩ := hm12
                obtain rfl : r12 = mapR (.slice A12 3 c12) := itV_inj e12
                clear hall e12
                simp only [List.drop_succ_cons, List.drop_zero]
                have S9 := Lib.hid (And.intro (HR.out.1.go hb) (HR.out.2.go hb))
                have M9 := Lib.hid (KM.mk hx12 hr12)
                have I9 := Lib.hid hi12
                clear hx12 hr12 hi12 hb HR
                generalize W = W9 at *
                go_wp2_with fail
                obtain ⟨bI, oI, q1, e41, hbI, hget1, _, g0, g1, g2⟩ := RdP.row M9.out.r (Below.refl _ _) (k := 1) (by simp)
                obtain rfl : A12 = some ⟨bI, oI, none⟩ := e41
                obtain rfl : (⟨3, d2, .slice A2 (mdK j).length c2⟩ : PRow) = q1 := Option.some.inj hget1
                obtain ⟨bI', oI', q2, e42, _, hget2, _, k0, k1, k2⟩ := RdP.row M9.out.r (Below.refl _ _) (k := 2) (by simp)
                cases e42
                obtain rfl : (⟨3, d3, v3⟩ : PRow) = q2 := Option.some.inj hget2
                obtain ⟨sM, lM, eM, hsM⟩ := mdK_cons j
                have hml : 0 < (mdK j).length := by rw [eM]; simp
                obtain ⟨bM, oM, q3, e43, hbM, hget3, _, m0, m1, m2, _⟩ := RdI.row I9.out (Below.refl _ _) (k := 0) hml
                obtain rfl : A2 = some ⟨bM, oM, none⟩ := e43
                obtain rfl : tR sM = q3 := by rw [eM] at hget3; exact Option.some.inj hget3
                dsimp only at g0 g1 g2 k0 k1 k2
                simp only [Nat.zero_mul, Nat.one_mul, Nat.add_zero] at g0 g1 g2 m2
                rw [show oI + 2 * 3 = oI + 6 by omega] at k0 k1
                have m2' : W9.cell? ⟨bM, oM + 2, none⟩ = some (.string (txK j)) := by rw [← hsM]; exact m2
                have HG := Lib.hid (show ∀ W, Below W9.heap.size W9 W → (W.cell? ⟨bI, oI + 3, none⟩ = some (.int .i64 3) ∧ W.cell? ⟨bI, oI + 3 + 1, none⟩ = some (.string d2) ∧ W.cell? ⟨bI, oI + 3 + 2, none⟩ = some (.slice (some ⟨bM, oM, none⟩) (mdK j).length c2)) ∧ (W.cell? ⟨bI, oI + 6, none⟩ = some (.int .i64 3) ∧ W.cell? ⟨bI, oI + 6 + 1, none⟩ = some (.string d3)) ∧ W.cell? ⟨bM, oM + 2, none⟩ = some (.string (txK j)) from fun W hW => ⟨⟨(hW.cell (p := ⟨bI, _, none⟩) hbI).trans g0, (hW.cell (p := ⟨bI, _, none⟩) hbI).trans g1, (hW.cell (p := ⟨bI, _, none⟩) hbI).trans g2⟩, ⟨(hW.cell (p := ⟨bI, _, none⟩) hbI).trans k0, (hW.cell (p := ⟨bI, _, none⟩) hbI).trans k1⟩, (hW.cell (p := ⟨bM, _, none⟩) hbM).trans m2'⟩)
                have hmi : (0 : Int) < ((mdK j).length : Int) := by omega
                clear hget1 hget2 hget3 g0 g1 g2 k0 k1 k2 m0 m1 m2 m2' hbI hbM eM hsM hml I9
                generalize hMM : (mdK j).length = mm at *
                have HMM := Lib.hid hMM
                clear hMM
                have HAT := Lib.hid (fun W hW => HMM.out ▸ (S9.out.2.go (W' := W) hW).at j hlt)
                refine wp_region_drawnF (by kernel_rfl) 55 374 [131, 132, 133, 134, 135, 136, 137, 138, 139, 140, 141, 142, 143, 144, 145, 146, 147, 148, 149, 150, 151, 152, 153, 154, 155, 156, 157, 158, 159, 160, 161, 162, 163, 164, 165, 166, 167, 168, 169, 170, 171, 172, 173, 174, 175, 176, 177, 178, 179, 180, 181, 182, 183, 184, 185] (ph15 B12 bI oI c12 bM oM mm c2 C9 C10 j) rfl (by kernel_rfl) (ph15m _ _ _ _ _ _ _ _ _ _ _) ?_ ?_
                · intro T hT i o hi ho W hb hdep
                  have hi' : i = 0 ∨ i = 1 ∨ i = 2 ∨ i = 3 ∨ i = 4 ∨ i = 5 ∨ i = 6 ∨ i = 7 ∨ i = 8 ∨ i = 9 ∨ i = 10 ∨ i = 11 ∨ i = 12 ∨ i = 13 ∨ i = 14 ∨ i = 15 ∨ i = 16 ∨ i = 17 ∨ i = 18 ∨ i = 19 ∨ i = 20 ∨ i = 21 ∨ i = 22 ∨ i = 23 ∨ i = 24 ∨ i = 25 ∨ i = 26 ∨ i = 27 ∨ i = 28 ∨ i = 29 ∨ i = 30 ∨ i = 31 ∨ i = 32 ∨ i = 33 ∨ i = 34 ∨ i = 35 ∨ i = 36 ∨ i = 37 ∨ i = 38 ∨ i = 39 ∨ i = 40 ∨ i = 41 ∨ i = 42 ∨ i = 43 ∨ i = 44 ∨ i = 45 ∨ i = 46 ∨ i = 47 ∨ i = 48 ∨ i = 49 ∨ i = 50 ∨ i = 51 ∨ i = 52 ∨ i = 53 ∨ i = 54 := by omega
                  clear hi
                  rcases hi' with rfl | rfl | rfl | rfl | rfl | rfl | rfl | rfl | rfl | rfl | rfl | rfl | rfl | rfl | rfl | rfl | rfl | rfl | rfl | rfl | rfl | rfl | rfl | rfl | rfl | rfl | rfl | rfl | rfl | rfl | rfl | rfl | rfl | rfl | rfl | rfl | rfl | rfl | rfl | rfl | rfl | rfl | rfl | rfl | rfl | rfl | rfl | rfl | rfl | rfl | rfl | rfl | rfl | rfl | rfl
                  · cases ho
                    have f13 : T.getD 13 undef = .int .i64 0 := (hT 13 (by decide)).trans (by kernel_rfl)
                    have g13 := f13
                    rw [Array.getD_eq_getD_getElem?] at g13
                    clear hdep hT
                    go_wp2
                    exact ⟨rfl, _, rfl, Below.refl _ _, rfl⟩
                  · cases ho
                    obtain ⟨y0, f131⟩ : ∃ y, T.getD 131 undef = y := ⟨_, rfl⟩
                    have hd0 : ph15 B12 bI oI c12 bM oM mm c2 C9 C10 j 0 y0 W := by rw [← f131]; exact hdep 0 (by omega) (by kernel_rfl)
                    obtain rfl : y0 = .int .i64 0 := hd0
                    have g131 := f131
                    rw [Array.getD_eq_getD_getElem?] at g131
                    clear hdep hT
                    go_wp2
                    exact ⟨rfl, _, rfl, Below.refl _ _, rfl⟩
                  · cases ho
                    obtain ⟨y1, f132⟩ : ∃ y, T.getD 132 undef = y := ⟨_, rfl⟩
                    have hd1 : ph15 B12 bI oI c12 bM oM mm c2 C9 C10 j 1 y1 W := by rw [← f132]; exact hdep 1 (by omega) (by kernel_rfl)
                    obtain rfl : y1 = .bool false := hd1
                    have g132 := f132
                    rw [Array.getD_eq_getD_getElem?] at g132
                    clear hdep hT
                    go_wp2
                    exact ⟨rfl, _, rfl, Below.refl _ _, rfl⟩
                  · cases ho
                    obtain ⟨y2, f133⟩ : ∃ y, T.getD 133 undef = y := ⟨_, rfl⟩
                    have hd2 : ph15 B12 bI oI c12 bM oM mm c2 C9 C10 j 2 y2 W := by rw [← f133]; exact hdep 2 (by omega) (by kernel_rfl)
                    have f12 : T.getD 12 undef = .pointer (some ⟨B12, 0, none⟩) := (hT 12 (by decide)).trans (by kernel_rfl)
                    obtain rfl : y2 = .bool false := hd2
                    have g133 := f133
                    rw [Array.getD_eq_getD_getElem?] at g133
                    have g12 := f12
                    rw [Array.getD_eq_getD_getElem?] at g12
                    clear hdep hT
                    refine wpList_guard (wanted_false (j := 2) (d := 133) rfl (by kernel_rfl) f133) rfl ?_
                    go_wp2
                    exact ⟨rfl, _, rfl, Below.refl _ _, rfl⟩
                  · cases ho
                    obtain ⟨y3, f134⟩ : ∃ y, T.getD 134 undef = y := ⟨_, rfl⟩
                    have hd3 : ph15 B12 bI oI c12 bM oM mm c2 C9 C10 j 3 y3 W := by rw [← f134]; exact hdep 3 (by omega) (by kernel_rfl)
                    obtain ⟨y2, f133⟩ : ∃ y, T.getD 133 undef = y := ⟨_, rfl⟩
                    have hd2 : ph15 B12 bI oI c12 bM oM mm c2 C9 C10 j 2 y2 W := by rw [← f133]; exact hdep 2 (by omega) (by kernel_rfl)
                    obtain rfl : y3 = .pointer (some ⟨B12, 5, none⟩) := hd3
                    obtain rfl : y2 = .bool false := hd2
                    obtain ⟨l0, l1, l2, l3, l4, l5, l6, l7⟩ := blk8c (M9.out.go hb).x
                    have g134 := f134
                    rw [Array.getD_eq_getD_getElem?] at g134
                    have g133 := f133
                    rw [Array.getD_eq_getD_getElem?] at g133
                    clear hdep hT
                    refine wpList_guard (wanted_false (j := 2) (d := 133) rfl (by kernel_rfl) f133) rfl ?_
                    go_wp2
                    exact ⟨rfl, _, rfl, Below.refl _ _, rfl⟩
                  · cases ho
                    obtain ⟨y4, f135⟩ : ∃ y, T.getD 135 undef = y := ⟨_, rfl⟩
                    have hd4 : ph15 B12 bI oI c12 bM oM mm c2 C9 C10 j 4 y4 W := by rw [← f135]; exact hdep 4 (by omega) (by kernel_rfl)
                    obtain ⟨y2, f133⟩ : ∃ y, T.getD 133 undef = y := ⟨_, rfl⟩
                    have hd2 : ph15 B12 bI oI c12 bM oM mm c2 C9 C10 j 2 y2 W := by rw [← f133]; exact hdep 2 (by omega) (by kernel_rfl)
                    obtain rfl : y4 = .slice (some ⟨bI, oI, none⟩) 3 c12 := hd4
                    obtain rfl : y2 = .bool false := hd2
                    have g135 := f135
                    rw [Array.getD_eq_getD_getElem?] at g135
                    have g133 := f133
                    rw [Array.getD_eq_getD_getElem?] at g133
                    clear hdep hT
                    refine wpList_guard (wanted_false (j := 2) (d := 133) rfl (by kernel_rfl) f133) rfl ?_
                    go_wp2
                    exact ⟨rfl, _, rfl, Below.refl _ _, rfl⟩
                  · cases ho
                    obtain ⟨y5, f136⟩ : ∃ y, T.getD 136 undef = y := ⟨_, rfl⟩
                    have hd5 : ph15 B12 bI oI c12 bM oM mm c2 C9 C10 j 5 y5 W := by rw [← f136]; exact hdep 5 (by omega) (by kernel_rfl)
                    obtain ⟨y2, f133⟩ : ∃ y, T.getD 133 undef = y := ⟨_, rfl⟩
                    have hd2 : ph15 B12 bI oI c12 bM oM mm c2 C9 C10 j 2 y2 W := by rw [← f133]; exact hdep 2 (by omega) (by kernel_rfl)
                    obtain rfl : y5 = .int .i64 3 := hd5
                    obtain rfl : y2 = .bool false := hd2
                    have g136 := f136
                    rw [Array.getD_eq_getD_getElem?] at g136
                    have g133 := f133
                    rw [Array.getD_eq_getD_getElem?] at g133
                    clear hdep hT
                    refine wpList_guard (wanted_false (j := 2) (d := 133) rfl (by kernel_rfl) f133) rfl ?_
                    go_wp2
                    exact ⟨rfl, _, rfl, Below.refl _ _, rfl⟩
                  · cases ho
                    obtain ⟨y2, f133⟩ : ∃ y, T.getD 133 undef = y := ⟨_, rfl⟩
                    have hd2 : ph15 B12 bI oI c12 bM oM mm c2 C9 C10 j 2 y2 W := by rw [← f133]; exact hdep 2 (by omega) (by kernel_rfl)
                    obtain ⟨y6, f137⟩ : ∃ y, T.getD 137 undef = y := ⟨_, rfl⟩
                    have hd6 : ph15 B12 bI oI c12 bM oM mm c2 C9 C10 j 6 y6 W := by rw [← f137]; exact hdep 6 (by omega) (by kernel_rfl)
                    obtain rfl : y2 = .bool false := hd2
                    obtain rfl : y6 = .bool false := hd6
                    have g133 := f133
                    rw [Array.getD_eq_getD_getElem?] at g133
                    have g137 := f137
                    rw [Array.getD_eq_getD_getElem?] at g137
                    clear hdep hT
                    go_wp2
                    exact ⟨rfl, _, rfl, Below.refl _ _, rfl⟩
                  · cases ho
                    obtain ⟨y7, f138⟩ : ∃ y, T.getD 138 undef = y := ⟨_, rfl⟩
                    have hd7 : ph15 B12 bI oI c12 bM oM mm c2 C9 C10 j 7 y7 W := by rw [← f138]; exact hdep 7 (by omega) (by kernel_rfl)
                    obtain rfl : y7 = .bool false := hd7
                    have g138 := f138
                    rw [Array.getD_eq_getD_getElem?] at g138
                    clear hdep hT
                    go_wp2
                    exact ⟨rfl, _, rfl, Below.refl _ _, rfl⟩
                  · cases ho
                    obtain ⟨y8, f139⟩ : ∃ y, T.getD 139 undef = y := ⟨_, rfl⟩
                    have hd8 : ph15 B12 bI oI c12 bM oM mm c2 C9 C10 j 8 y8 W := by rw [← f139]; exact hdep 8 (by omega) (by kernel_rfl)
                    have f12 : T.getD 12 undef = .pointer (some ⟨B12, 0, none⟩) := (hT 12 (by decide)).trans (by kernel_rfl)
                    obtain rfl : y8 = .bool false := hd8
                    have g139 := f139
                    rw [Array.getD_eq_getD_getElem?] at g139
                    have g12 := f12
                    rw [Array.getD_eq_getD_getElem?] at g12
                    clear hdep hT
                    refine wpList_guard (wanted_false (j := 8) (d := 139) rfl (by kernel_rfl) f139) rfl ?_
                    go_wp2
                    exact ⟨rfl, _, rfl, Below.refl _ _, rfl⟩
                  · cases ho
                    obtain ⟨y9, f140⟩ : ∃ y, T.getD 140 undef = y := ⟨_, rfl⟩
                    have hd9 : ph15 B12 bI oI c12 bM oM mm c2 C9 C10 j 9 y9 W := by rw [← f140]; exact hdep 9 (by omega) (by kernel_rfl)
                    obtain ⟨y8, f139⟩ : ∃ y, T.getD 139 undef = y := ⟨_, rfl⟩
                    have hd8 : ph15 B12 bI oI c12 bM oM mm c2 C9 C10 j 8 y8 W := by rw [← f139]; exact hdep 8 (by omega) (by kernel_rfl)
                    obtain rfl : y9 = .pointer (some ⟨B12, 5, none⟩) := hd9
                    obtain rfl : y8 = .bool false := hd8
                    obtain ⟨l0, l1, l2, l3, l4, l5, l6, l7⟩ := blk8c (M9.out.go hb).x
                    have g140 := f140
                    rw [Array.getD_eq_getD_getElem?] at g140
                    have g139 := f139
                    rw [Array.getD_eq_getD_getElem?] at g139
                    clear hdep hT
                    refine wpList_guard (wanted_false (j := 8) (d := 139) rfl (by kernel_rfl) f139) rfl ?_
                    go_wp2
                    exact ⟨rfl, _, rfl, Below.refl _ _, rfl⟩
                  · cases ho
                    obtain ⟨y10, f141⟩ : ∃ y, T.getD 141 undef = y := ⟨_, rfl⟩
                    have hd10 : ph15 B12 bI oI c12 bM oM mm c2 C9 C10 j 10 y10 W := by rw [← f141]; exact hdep 10 (by omega) (by kernel_rfl)
                    obtain ⟨y8, f139⟩ : ∃ y, T.getD 139 undef = y := ⟨_, rfl⟩
                    have hd8 : ph15 B12 bI oI c12 bM oM mm c2 C9 C10 j 8 y8 W := by rw [← f139]; exact hdep 8 (by omega) (by kernel_rfl)
                    obtain rfl : y10 = .slice (some ⟨bI, oI, none⟩) 3 c12 := hd10
                    obtain rfl : y8 = .bool false := hd8
                    have g141 := f141
                    rw [Array.getD_eq_getD_getElem?] at g141
                    have g139 := f139
                    rw [Array.getD_eq_getD_getElem?] at g139
                    clear hdep hT
                    refine wpList_guard (wanted_false (j := 8) (d := 139) rfl (by kernel_rfl) f139) rfl ?_
                    go_wp2
                    exact ⟨rfl, _, rfl, Below.refl _ _, rfl⟩
                  · cases ho
                    obtain ⟨y11, f142⟩ : ∃ y, T.getD 142 undef = y := ⟨_, rfl⟩
                    have hd11 : ph15 B12 bI oI c12 bM oM mm c2 C9 C10 j 11 y11 W := by rw [← f142]; exact hdep 11 (by omega) (by kernel_rfl)
                    obtain ⟨y8, f139⟩ : ∃ y, T.getD 139 undef = y := ⟨_, rfl⟩
                    have hd8 : ph15 B12 bI oI c12 bM oM mm c2 C9 C10 j 8 y8 W := by rw [← f139]; exact hdep 8 (by omega) (by kernel_rfl)
                    obtain rfl : y11 = .pointer (some ⟨bI, oI + 3, none⟩) := hd11
                    obtain rfl : y8 = .bool false := hd8
                    have g142 := f142
                    rw [Array.getD_eq_getD_getElem?] at g142
                    have g139 := f139
                    rw [Array.getD_eq_getD_getElem?] at g139
                    clear hdep hT
                    refine wpList_guard (wanted_false (j := 8) (d := 139) rfl (by kernel_rfl) f139) rfl ?_
                    go_wp2
                    exact ⟨rfl, _, rfl, Below.refl _ _, rfl⟩
                  · cases ho
                    obtain ⟨y12, f143⟩ : ∃ y, T.getD 143 undef = y := ⟨_, rfl⟩
                    have hd12 : ph15 B12 bI oI c12 bM oM mm c2 C9 C10 j 12 y12 W := by rw [← f143]; exact hdep 12 (by omega) (by kernel_rfl)
                    obtain ⟨y8, f139⟩ : ∃ y, T.getD 139 undef = y := ⟨_, rfl⟩
                    have hd8 : ph15 B12 bI oI c12 bM oM mm c2 C9 C10 j 8 y8 W := by rw [← f139]; exact hdep 8 (by omega) (by kernel_rfl)
                    obtain rfl : y12 = .pointer (some ⟨bI, oI + 3, none⟩) := hd12
                    obtain rfl : y8 = .bool false := hd8
                    obtain ⟨⟨g0, g1, g2⟩, ⟨k0, k1⟩, m2⟩ := HG.out W hb
                    have g143 := f143
                    rw [Array.getD_eq_getD_getElem?] at g143
                    have g139 := f139
                    rw [Array.getD_eq_getD_getElem?] at g139
                    clear hdep hT
                    refine wpList_guard (wanted_false (j := 8) (d := 139) rfl (by kernel_rfl) f139) rfl ?_
                    go_wp2
                    exact ⟨rfl, _, rfl, Below.refl _ _, rfl⟩
                  · cases ho
                    obtain ⟨y8, f139⟩ : ∃ y, T.getD 139 undef = y := ⟨_, rfl⟩
                    have hd8 : ph15 B12 bI oI c12 bM oM mm c2 C9 C10 j 8 y8 W := by rw [← f139]; exact hdep 8 (by omega) (by kernel_rfl)
                    obtain rfl : y8 = .bool false := hd8
                    have g139 := f139
                    rw [Array.getD_eq_getD_getElem?] at g139
                    clear hdep hT
                    refine wpList_guard (wanted_false (j := 8) (d := 139) rfl (by kernel_rfl) f139) rfl ?_
                    go_wp2_with fail
                    refine (number_any _ _).mono ?_
                    rintro e w1 ⟨rfl, hb1⟩
                    go_wp2
                    exact ⟨rfl, _, rfl, hb1, rfl⟩
                  · cases ho
                    obtain ⟨y13, f144⟩ : ∃ y, T.getD 144 undef = y := ⟨_, rfl⟩
                    have hd13 : ph15 B12 bI oI c12 bM oM mm c2 C9 C10 j 13 y13 W := by rw [← f144]; exact hdep 13 (by omega) (by kernel_rfl)
                    obtain ⟨y14, f145⟩ : ∃ y, T.getD 145 undef = y := ⟨_, rfl⟩
                    have hd14 : ph15 B12 bI oI c12 bM oM mm c2 C9 C10 j 14 y14 W := by rw [← f145]; exact hdep 14 (by omega) (by kernel_rfl)
                    obtain ⟨y8, f139⟩ : ∃ y, T.getD 139 undef = y := ⟨_, rfl⟩
                    have hd8 : ph15 B12 bI oI c12 bM oM mm c2 C9 C10 j 8 y8 W := by rw [← f139]; exact hdep 8 (by omega) (by kernel_rfl)
                    obtain rfl : y13 = .agg #[.int .i64 3, .string d2] := hd13
                    obtain rfl : y14 = .agg #[.int .i64 3, .string d2] := hd14
                    obtain rfl : y8 = .bool false := hd8
                    have g144 := f144
                    rw [Array.getD_eq_getD_getElem?] at g144
                    have g145 := f145
                    rw [Array.getD_eq_getD_getElem?] at g145
                    have g139 := f139
                    rw [Array.getD_eq_getD_getElem?] at g139
                    clear hdep hT
                    refine wpList_guard (wanted_false (j := 8) (d := 139) rfl (by kernel_rfl) f139) rfl ?_
                    go_wp2
                    exact ⟨rfl, _, rfl, Below.refl _ _, rfl⟩
                  · cases ho
                    obtain ⟨y8, f139⟩ : ∃ y, T.getD 139 undef = y := ⟨_, rfl⟩
                    have hd8 : ph15 B12 bI oI c12 bM oM mm c2 C9 C10 j 8 y8 W := by rw [← f139]; exact hdep 8 (by omega) (by kernel_rfl)
                    obtain ⟨y15, f146⟩ : ∃ y, T.getD 146 undef = y := ⟨_, rfl⟩
                    have hd15 : ph15 B12 bI oI c12 bM oM mm c2 C9 C10 j 15 y15 W := by rw [← f146]; exact hdep 15 (by omega) (by kernel_rfl)
                    obtain rfl : y8 = .bool false := hd8
                    obtain rfl : y15 = .bool false := hd15
                    have g139 := f139
                    rw [Array.getD_eq_getD_getElem?] at g139
                    have g146 := f146
                    rw [Array.getD_eq_getD_getElem?] at g146
                    clear hdep hT
                    go_wp2
                    exact ⟨rfl, _, rfl, Below.refl _ _, rfl⟩
                  · cases ho
                    obtain ⟨y16, f147⟩ : ∃ y, T.getD 147 undef = y := ⟨_, rfl⟩
                    have hd16 : ph15 B12 bI oI c12 bM oM mm c2 C9 C10 j 16 y16 W := by rw [← f147]; exact hdep 16 (by omega) (by kernel_rfl)
                    obtain rfl : y16 = .bool false := hd16
                    have g147 := f147
                    rw [Array.getD_eq_getD_getElem?] at g147
                    clear hdep hT
                    go_wp2
                    exact ⟨rfl, _, rfl, Below.refl _ _, rfl⟩
                  · cases ho
                    obtain ⟨y17, f148⟩ : ∃ y, T.getD 148 undef = y := ⟨_, rfl⟩
                    have hd17 : ph15 B12 bI oI c12 bM oM mm c2 C9 C10 j 17 y17 W := by rw [← f148]; exact hdep 17 (by omega) (by kernel_rfl)
                    have f12 : T.getD 12 undef = .pointer (some ⟨B12, 0, none⟩) := (hT 12 (by decide)).trans (by kernel_rfl)
                    obtain rfl : y17 = .bool false := hd17
                    have g148 := f148
                    rw [Array.getD_eq_getD_getElem?] at g148
                    have g12 := f12
                    rw [Array.getD_eq_getD_getElem?] at g12
                    clear hdep hT
                    refine wpList_guard (wanted_false (j := 17) (d := 148) rfl (by kernel_rfl) f148) rfl ?_
                    go_wp2
                    exact ⟨rfl, _, rfl, Below.refl _ _, rfl⟩
                  · cases ho
                    obtain ⟨y18, f149⟩ : ∃ y, T.getD 149 undef = y := ⟨_, rfl⟩
                    have hd18 : ph15 B12 bI oI c12 bM oM mm c2 C9 C10 j 18 y18 W := by rw [← f149]; exact hdep 18 (by omega) (by kernel_rfl)
                    obtain ⟨y17, f148⟩ : ∃ y, T.getD 148 undef = y := ⟨_, rfl⟩
                    have hd17 : ph15 B12 bI oI c12 bM oM mm c2 C9 C10 j 17 y17 W := by rw [← f148]; exact hdep 17 (by omega) (by kernel_rfl)
                    obtain rfl : y18 = .pointer (some ⟨B12, 5, none⟩) := hd18
                    obtain rfl : y17 = .bool false := hd17
                    obtain ⟨l0, l1, l2, l3, l4, l5, l6, l7⟩ := blk8c (M9.out.go hb).x
                    have g149 := f149
                    rw [Array.getD_eq_getD_getElem?] at g149
                    have g148 := f148
                    rw [Array.getD_eq_getD_getElem?] at g148
                    clear hdep hT
                    refine wpList_guard (wanted_false (j := 17) (d := 148) rfl (by kernel_rfl) f148) rfl ?_
                    go_wp2
                    exact ⟨rfl, _, rfl, Below.refl _ _, rfl⟩
                  · cases ho
                    obtain ⟨y19, f150⟩ : ∃ y, T.getD 150 undef = y := ⟨_, rfl⟩
                    have hd19 : ph15 B12 bI oI c12 bM oM mm c2 C9 C10 j 19 y19 W := by rw [← f150]; exact hdep 19 (by omega) (by kernel_rfl)
                    obtain ⟨y17, f148⟩ : ∃ y, T.getD 148 undef = y := ⟨_, rfl⟩
                    have hd17 : ph15 B12 bI oI c12 bM oM mm c2 C9 C10 j 17 y17 W := by rw [← f148]; exact hdep 17 (by omega) (by kernel_rfl)
                    obtain rfl : y19 = .slice (some ⟨bI, oI, none⟩) 3 c12 := hd19
                    obtain rfl : y17 = .bool false := hd17
                    have g150 := f150
                    rw [Array.getD_eq_getD_getElem?] at g150
                    have g148 := f148
                    rw [Array.getD_eq_getD_getElem?] at g148
                    clear hdep hT
                    refine wpList_guard (wanted_false (j := 17) (d := 148) rfl (by kernel_rfl) f148) rfl ?_
                    go_wp2
                    exact ⟨rfl, _, rfl, Below.refl _ _, rfl⟩
                  · cases ho
                    obtain ⟨y20, f151⟩ : ∃ y, T.getD 151 undef = y := ⟨_, rfl⟩
                    have hd20 : ph15 B12 bI oI c12 bM oM mm c2 C9 C10 j 20 y20 W := by rw [← f151]; exact hdep 20 (by omega) (by kernel_rfl)
                    obtain ⟨y17, f148⟩ : ∃ y, T.getD 148 undef = y := ⟨_, rfl⟩
                    have hd17 : ph15 B12 bI oI c12 bM oM mm c2 C9 C10 j 17 y17 W := by rw [← f148]; exact hdep 17 (by omega) (by kernel_rfl)
                    obtain rfl : y20 = .pointer (some ⟨bI, oI + 3, none⟩) := hd20
                    obtain rfl : y17 = .bool false := hd17
                    have g151 := f151
                    rw [Array.getD_eq_getD_getElem?] at g151
                    have g148 := f148
                    rw [Array.getD_eq_getD_getElem?] at g148
                    clear hdep hT
                    refine wpList_guard (wanted_false (j := 17) (d := 148) rfl (by kernel_rfl) f148) rfl ?_
                    go_wp2
                    exact ⟨rfl, _, rfl, Below.refl _ _, rfl⟩
                  · cases ho
                    obtain ⟨y21, f152⟩ : ∃ y, T.getD 152 undef = y := ⟨_, rfl⟩
                    have hd21 : ph15 B12 bI oI c12 bM oM mm c2 C9 C10 j 21 y21 W := by rw [← f152]; exact hdep 21 (by omega) (by kernel_rfl)
                    obtain ⟨y17, f148⟩ : ∃ y, T.getD 148 undef = y := ⟨_, rfl⟩
                    have hd17 : ph15 B12 bI oI c12 bM oM mm c2 C9 C10 j 17 y17 W := by rw [← f148]; exact hdep 17 (by omega) (by kernel_rfl)
                    obtain rfl : y21 = .pointer (some ⟨bI, oI + 3 + 2, none⟩) := hd21
                    obtain rfl : y17 = .bool false := hd17
                    obtain ⟨⟨g0, g1, g2⟩, ⟨k0, k1⟩, m2⟩ := HG.out W hb
                    have g152 := f152
                    rw [Array.getD_eq_getD_getElem?] at g152
                    have g148 := f148
                    rw [Array.getD_eq_getD_getElem?] at g148
                    clear hdep hT
                    refine wpList_guard (wanted_false (j := 17) (d := 148) rfl (by kernel_rfl) f148) rfl ?_
                    go_wp2
                    exact ⟨rfl, _, rfl, Below.refl _ _, rfl⟩
                  · cases ho
                    obtain ⟨y22, f153⟩ : ∃ y, T.getD 153 undef = y := ⟨_, rfl⟩
                    have hd22 : ph15 B12 bI oI c12 bM oM mm c2 C9 C10 j 22 y22 W := by rw [← f153]; exact hdep 22 (by omega) (by kernel_rfl)
                    obtain ⟨y17, f148⟩ : ∃ y, T.getD 148 undef = y := ⟨_, rfl⟩
                    have hd17 : ph15 B12 bI oI c12 bM oM mm c2 C9 C10 j 17 y17 W := by rw [← f148]; exact hdep 17 (by omega) (by kernel_rfl)
                    obtain rfl : y22 = .slice (some ⟨bM, oM, none⟩) mm c2 := hd22
                    obtain rfl : y17 = .bool false := hd17
                    have g153 := f153
                    rw [Array.getD_eq_getD_getElem?] at g153
                    have g148 := f148
                    rw [Array.getD_eq_getD_getElem?] at g148
                    clear hdep hT
                    refine wpList_guard (wanted_false (j := 17) (d := 148) rfl (by kernel_rfl) f148) rfl ?_
                    go_wp2
                    exact ⟨rfl, _, rfl, Below.refl _ _, rfl⟩
                  · cases ho
                    obtain ⟨y17, f148⟩ : ∃ y, T.getD 148 undef = y := ⟨_, rfl⟩
                    have hd17 : ph15 B12 bI oI c12 bM oM mm c2 C9 C10 j 17 y17 W := by rw [← f148]; exact hdep 17 (by omega) (by kernel_rfl)
                    have f9 : T.getD 9 undef = .slice (some ⟨C9, 0, none⟩) 3 3 := (hT 9 (by decide)).trans (by kernel_rfl)
                    obtain rfl : y17 = .bool false := hd17
                    have g148 := f148
                    rw [Array.getD_eq_getD_getElem?] at g148
                    have g9 := f9
                    rw [Array.getD_eq_getD_getElem?] at g9
                    clear hdep hT
                    refine wpList_guard (wanted_false (j := 17) (d := 148) rfl (by kernel_rfl) f148) rfl ?_
                    go_wp2
                    exact ⟨rfl, _, rfl, Below.refl _ _, rfl⟩
                  · cases ho
                    obtain ⟨y17, f148⟩ : ∃ y, T.getD 148 undef = y := ⟨_, rfl⟩
                    have hd17 : ph15 B12 bI oI c12 bM oM mm c2 C9 C10 j 17 y17 W := by rw [← f148]; exact hdep 17 (by omega) (by kernel_rfl)
                    have f11 : T.getD 11 undef = .int .i64 (j : Int) := (hT 11 (by decide)).trans (by kernel_rfl)
                    obtain rfl : y17 = .bool false := hd17
                    have g148 := f148
                    rw [Array.getD_eq_getD_getElem?] at g148
                    have g11 := f11
                    rw [Array.getD_eq_getD_getElem?] at g11
                    clear hdep hT
                    refine wpList_guard (wanted_false (j := 17) (d := 148) rfl (by kernel_rfl) f148) rfl ?_
                    go_wp2
                    exact ⟨rfl, _, rfl, Below.refl _ _, rfl⟩
                  · cases ho
                    obtain ⟨y24, f155⟩ : ∃ y, T.getD 155 undef = y := ⟨_, rfl⟩
                    have hd24 : ph15 B12 bI oI c12 bM oM mm c2 C9 C10 j 24 y24 W := by rw [← f155]; exact hdep 24 (by omega) (by kernel_rfl)
                    obtain ⟨y25, f156⟩ : ∃ y, T.getD 156 undef = y := ⟨_, rfl⟩
                    have hd25 : ph15 B12 bI oI c12 bM oM mm c2 C9 C10 j 25 y25 W := by rw [← f156]; exact hdep 25 (by omega) (by kernel_rfl)
                    obtain ⟨y17, f148⟩ : ∃ y, T.getD 148 undef = y := ⟨_, rfl⟩
                    have hd17 : ph15 B12 bI oI c12 bM oM mm c2 C9 C10 j 17 y17 W := by rw [← f148]; exact hdep 17 (by omega) (by kernel_rfl)
                    obtain rfl : y24 = .slice (some ⟨C9, 0, none⟩) 3 3 := hd24
                    obtain rfl : y25 = .int .i64 (j : Int) := hd25
                    obtain rfl : y17 = .bool false := hd17
                    have g155 := f155
                    rw [Array.getD_eq_getD_getElem?] at g155
                    have g156 := f156
                    rw [Array.getD_eq_getD_getElem?] at g156
                    have g148 := f148
                    rw [Array.getD_eq_getD_getElem?] at g148
                    clear hdep hT
                    refine wpList_guard (wanted_false (j := 17) (d := 148) rfl (by kernel_rfl) f148) rfl ?_
                    go_wp2
                    exact ⟨rfl, _, rfl, Below.refl _ _, rfl⟩
                  · cases ho
                    obtain ⟨y26, f157⟩ : ∃ y, T.getD 157 undef = y := ⟨_, rfl⟩
                    have hd26 : ph15 B12 bI oI c12 bM oM mm c2 C9 C10 j 26 y26 W := by rw [← f157]; exact hdep 26 (by omega) (by kernel_rfl)
                    obtain ⟨y17, f148⟩ : ∃ y, T.getD 148 undef = y := ⟨_, rfl⟩
                    have hd17 : ph15 B12 bI oI c12 bM oM mm c2 C9 C10 j 17 y17 W := by rw [← f148]; exact hdep 17 (by omega) (by kernel_rfl)
                    obtain rfl : y26 = .pointer (some ⟨C9, j, none⟩) := hd26
                    obtain rfl : y17 = .bool false := hd17
                    obtain ⟨n0, n1, n2⟩ := HAT.out W hb
                    have g157 := f157
                    rw [Array.getD_eq_getD_getElem?] at g157
                    have g148 := f148
                    rw [Array.getD_eq_getD_getElem?] at g148
                    clear hdep hT
                    refine wpList_guard (wanted_false (j := 17) (d := 148) rfl (by kernel_rfl) f148) rfl ?_
                    go_wp2
                    exact ⟨rfl, _, rfl, Below.refl _ _, rfl⟩
                  · cases ho
                    obtain ⟨y23, f154⟩ : ∃ y, T.getD 154 undef = y := ⟨_, rfl⟩
                    have hd23 : ph15 B12 bI oI c12 bM oM mm c2 C9 C10 j 23 y23 W := by rw [← f154]; exact hdep 23 (by omega) (by kernel_rfl)
                    obtain ⟨y27, f158⟩ : ∃ y, T.getD 158 undef = y := ⟨_, rfl⟩
                    have hd27 : ph15 B12 bI oI c12 bM oM mm c2 C9 C10 j 27 y27 W := by rw [← f158]; exact hdep 27 (by omega) (by kernel_rfl)
                    obtain ⟨y17, f148⟩ : ∃ y, T.getD 148 undef = y := ⟨_, rfl⟩
                    have hd17 : ph15 B12 bI oI c12 bM oM mm c2 C9 C10 j 17 y17 W := by rw [← f148]; exact hdep 17 (by omega) (by kernel_rfl)
                    obtain rfl : y23 = .int .i64 (mm : Int) := hd23
                    obtain rfl : y27 = .int .i64 (mm : Int) := hd27
                    obtain rfl : y17 = .bool false := hd17
                    have g154 := f154
                    rw [Array.getD_eq_getD_getElem?] at g154
                    have g158 := f158
                    rw [Array.getD_eq_getD_getElem?] at g158
                    have g148 := f148
                    rw [Array.getD_eq_getD_getElem?] at g148
                    clear hdep hT
                    refine wpList_guard (wanted_false (j := 17) (d := 148) rfl (by kernel_rfl) f148) rfl ?_
                    go_wp2
                    exact ⟨rfl, _, rfl, Below.refl _ _, rfl⟩
                  · cases ho
                    obtain ⟨y17, f148⟩ : ∃ y, T.getD 148 undef = y := ⟨_, rfl⟩
                    have hd17 : ph15 B12 bI oI c12 bM oM mm c2 C9 C10 j 17 y17 W := by rw [← f148]; exact hdep 17 (by omega) (by kernel_rfl)
                    obtain ⟨y28, f159⟩ : ∃ y, T.getD 159 undef = y := ⟨_, rfl⟩
                    have hd28 : ph15 B12 bI oI c12 bM oM mm c2 C9 C10 j 28 y28 W := by rw [← f159]; exact hdep 28 (by omega) (by kernel_rfl)
                    obtain rfl : y17 = .bool false := hd17
                    obtain rfl : y28 = .bool false := hd28
                    have g148 := f148
                    rw [Array.getD_eq_getD_getElem?] at g148
                    have g159 := f159
                    rw [Array.getD_eq_getD_getElem?] at g159
                    clear hdep hT
                    go_wp2
                    exact ⟨rfl, _, rfl, Below.refl _ _, rfl⟩
                  · cases ho
                    obtain ⟨y29, f160⟩ : ∃ y, T.getD 160 undef = y := ⟨_, rfl⟩
                    have hd29 : ph15 B12 bI oI c12 bM oM mm c2 C9 C10 j 29 y29 W := by rw [← f160]; exact hdep 29 (by omega) (by kernel_rfl)
                    obtain rfl : y29 = .bool false := hd29
                    have g160 := f160
                    rw [Array.getD_eq_getD_getElem?] at g160
                    clear hdep hT
                    go_wp2
                    exact ⟨rfl, _, rfl, Below.refl _ _, rfl⟩
                  · cases ho
                    obtain ⟨y30, f161⟩ : ∃ y, T.getD 161 undef = y := ⟨_, rfl⟩
                    have hd30 : ph15 B12 bI oI c12 bM oM mm c2 C9 C10 j 30 y30 W := by rw [← f161]; exact hdep 30 (by omega) (by kernel_rfl)
                    have f12 : T.getD 12 undef = .pointer (some ⟨B12, 0, none⟩) := (hT 12 (by decide)).trans (by kernel_rfl)
                    obtain rfl : y30 = .bool false := hd30
                    have g161 := f161
                    rw [Array.getD_eq_getD_getElem?] at g161
                    have g12 := f12
                    rw [Array.getD_eq_getD_getElem?] at g12
                    clear hdep hT
                    refine wpList_guard (wanted_false (j := 30) (d := 161) rfl (by kernel_rfl) f161) rfl ?_
                    go_wp2
                    exact ⟨rfl, _, rfl, Below.refl _ _, rfl⟩
                  · cases ho
                    obtain ⟨y31, f162⟩ : ∃ y, T.getD 162 undef = y := ⟨_, rfl⟩
                    have hd31 : ph15 B12 bI oI c12 bM oM mm c2 C9 C10 j 31 y31 W := by rw [← f162]; exact hdep 31 (by omega) (by kernel_rfl)
                    obtain ⟨y30, f161⟩ : ∃ y, T.getD 161 undef = y := ⟨_, rfl⟩
                    have hd30 : ph15 B12 bI oI c12 bM oM mm c2 C9 C10 j 30 y30 W := by rw [← f161]; exact hdep 30 (by omega) (by kernel_rfl)
                    obtain rfl : y31 = .pointer (some ⟨B12, 5, none⟩) := hd31
                    obtain rfl : y30 = .bool false := hd30
                    obtain ⟨l0, l1, l2, l3, l4, l5, l6, l7⟩ := blk8c (M9.out.go hb).x
                    have g162 := f162
                    rw [Array.getD_eq_getD_getElem?] at g162
                    have g161 := f161
                    rw [Array.getD_eq_getD_getElem?] at g161
                    clear hdep hT
                    refine wpList_guard (wanted_false (j := 30) (d := 161) rfl (by kernel_rfl) f161) rfl ?_
                    go_wp2
                    exact ⟨rfl, _, rfl, Below.refl _ _, rfl⟩
                  · cases ho
                    obtain ⟨y32, f163⟩ : ∃ y, T.getD 163 undef = y := ⟨_, rfl⟩
                    have hd32 : ph15 B12 bI oI c12 bM oM mm c2 C9 C10 j 32 y32 W := by rw [← f163]; exact hdep 32 (by omega) (by kernel_rfl)
                    obtain ⟨y30, f161⟩ : ∃ y, T.getD 161 undef = y := ⟨_, rfl⟩
                    have hd30 : ph15 B12 bI oI c12 bM oM mm c2 C9 C10 j 30 y30 W := by rw [← f161]; exact hdep 30 (by omega) (by kernel_rfl)
                    obtain rfl : y32 = .slice (some ⟨bI, oI, none⟩) 3 c12 := hd32
                    obtain rfl : y30 = .bool false := hd30
                    have g163 := f163
                    rw [Array.getD_eq_getD_getElem?] at g163
                    have g161 := f161
                    rw [Array.getD_eq_getD_getElem?] at g161
                    clear hdep hT
                    refine wpList_guard (wanted_false (j := 30) (d := 161) rfl (by kernel_rfl) f161) rfl ?_
                    go_wp2
                    exact ⟨rfl, _, rfl, Below.refl _ _, rfl⟩
                  · cases ho
                    obtain ⟨y33, f164⟩ : ∃ y, T.getD 164 undef = y := ⟨_, rfl⟩
                    have hd33 : ph15 B12 bI oI c12 bM oM mm c2 C9 C10 j 33 y33 W := by rw [← f164]; exact hdep 33 (by omega) (by kernel_rfl)
                    obtain ⟨y30, f161⟩ : ∃ y, T.getD 161 undef = y := ⟨_, rfl⟩
                    have hd30 : ph15 B12 bI oI c12 bM oM mm c2 C9 C10 j 30 y30 W := by rw [← f161]; exact hdep 30 (by omega) (by kernel_rfl)
                    obtain rfl : y33 = .pointer (some ⟨bI, oI + 3, none⟩) := hd33
                    obtain rfl : y30 = .bool false := hd30
                    have g164 := f164
                    rw [Array.getD_eq_getD_getElem?] at g164
                    have g161 := f161
                    rw [Array.getD_eq_getD_getElem?] at g161
                    clear hdep hT
                    refine wpList_guard (wanted_false (j := 30) (d := 161) rfl (by kernel_rfl) f161) rfl ?_
                    go_wp2
                    exact ⟨rfl, _, rfl, Below.refl _ _, rfl⟩
                  · cases ho
                    obtain ⟨y34, f165⟩ : ∃ y, T.getD 165 undef = y := ⟨_, rfl⟩
                    have hd34 : ph15 B12 bI oI c12 bM oM mm c2 C9 C10 j 34 y34 W := by rw [← f165]; exact hdep 34 (by omega) (by kernel_rfl)
                    obtain ⟨y30, f161⟩ : ∃ y, T.getD 161 undef = y := ⟨_, rfl⟩
                    have hd30 : ph15 B12 bI oI c12 bM oM mm c2 C9 C10 j 30 y30 W := by rw [← f161]; exact hdep 30 (by omega) (by kernel_rfl)
                    obtain rfl : y34 = .pointer (some ⟨bI, oI + 3 + 2, none⟩) := hd34
                    obtain rfl : y30 = .bool false := hd30
                    obtain ⟨⟨g0, g1, g2⟩, ⟨k0, k1⟩, m2⟩ := HG.out W hb
                    have g165 := f165
                    rw [Array.getD_eq_getD_getElem?] at g165
                    have g161 := f161
                    rw [Array.getD_eq_getD_getElem?] at g161
                    clear hdep hT
                    refine wpList_guard (wanted_false (j := 30) (d := 161) rfl (by kernel_rfl) f161) rfl ?_
                    go_wp2
                    exact ⟨rfl, _, rfl, Below.refl _ _, rfl⟩
                  · cases ho
                    obtain ⟨y35, f166⟩ : ∃ y, T.getD 166 undef = y := ⟨_, rfl⟩
                    have hd35 : ph15 B12 bI oI c12 bM oM mm c2 C9 C10 j 35 y35 W := by rw [← f166]; exact hdep 35 (by omega) (by kernel_rfl)
                    obtain ⟨y30, f161⟩ : ∃ y, T.getD 161 undef = y := ⟨_, rfl⟩
                    have hd30 : ph15 B12 bI oI c12 bM oM mm c2 C9 C10 j 30 y30 W := by rw [← f161]; exact hdep 30 (by omega) (by kernel_rfl)
                    obtain rfl : y35 = .slice (some ⟨bM, oM, none⟩) mm c2 := hd35
                    obtain rfl : y30 = .bool false := hd30
                    have g166 := f166
                    rw [Array.getD_eq_getD_getElem?] at g166
                    have g161 := f161
                    rw [Array.getD_eq_getD_getElem?] at g161
                    clear hdep hT
                    refine wpList_guard (wanted_false (j := 30) (d := 161) rfl (by kernel_rfl) f161) rfl ?_
                    go_wp2
                    exact ⟨rfl, _, rfl, Below.refl _ _, rfl⟩
                  · cases ho
                    obtain ⟨y36, f167⟩ : ∃ y, T.getD 167 undef = y := ⟨_, rfl⟩
                    have hd36 : ph15 B12 bI oI c12 bM oM mm c2 C9 C10 j 36 y36 W := by rw [← f167]; exact hdep 36 (by omega) (by kernel_rfl)
                    obtain ⟨y30, f161⟩ : ∃ y, T.getD 161 undef = y := ⟨_, rfl⟩
                    have hd30 : ph15 B12 bI oI c12 bM oM mm c2 C9 C10 j 30 y30 W := by rw [← f161]; exact hdep 30 (by omega) (by kernel_rfl)
                    obtain rfl : y36 = .pointer (some ⟨bM, oM, none⟩) := hd36
                    obtain rfl : y30 = .bool false := hd30
                    have g167 := f167
                    rw [Array.getD_eq_getD_getElem?] at g167
                    have g161 := f161
                    rw [Array.getD_eq_getD_getElem?] at g161
                    clear hdep hT
                    refine wpList_guard (wanted_false (j := 30) (d := 161) rfl (by kernel_rfl) f161) rfl ?_
                    go_wp2
                    exact ⟨rfl, _, rfl, Below.refl _ _, rfl⟩
                  · cases ho
                    obtain ⟨y37, f168⟩ : ∃ y, T.getD 168 undef = y := ⟨_, rfl⟩
                    have hd37 : ph15 B12 bI oI c12 bM oM mm c2 C9 C10 j 37 y37 W := by rw [← f168]; exact hdep 37 (by omega) (by kernel_rfl)
                    obtain ⟨y30, f161⟩ : ∃ y, T.getD 161 undef = y := ⟨_, rfl⟩
                    have hd30 : ph15 B12 bI oI c12 bM oM mm c2 C9 C10 j 30 y30 W := by rw [← f161]; exact hdep 30 (by omega) (by kernel_rfl)
                    obtain rfl : y37 = .pointer (some ⟨bM, oM + 1, none⟩) := hd37
                    obtain rfl : y30 = .bool false := hd30
                    have g168 := f168
                    rw [Array.getD_eq_getD_getElem?] at g168
                    have g161 := f161
                    rw [Array.getD_eq_getD_getElem?] at g161
                    clear hdep hT
                    refine wpList_guard (wanted_false (j := 30) (d := 161) rfl (by kernel_rfl) f161) rfl ?_
                    go_wp2
                    exact ⟨rfl, _, rfl, Below.refl _ _, rfl⟩
                  · cases ho
                    obtain ⟨y38, f169⟩ : ∃ y, T.getD 169 undef = y := ⟨_, rfl⟩
                    have hd38 : ph15 B12 bI oI c12 bM oM mm c2 C9 C10 j 38 y38 W := by rw [← f169]; exact hdep 38 (by omega) (by kernel_rfl)
                    obtain ⟨y30, f161⟩ : ∃ y, T.getD 161 undef = y := ⟨_, rfl⟩
                    have hd30 : ph15 B12 bI oI c12 bM oM mm c2 C9 C10 j 30 y30 W := by rw [← f161]; exact hdep 30 (by omega) (by kernel_rfl)
                    obtain rfl : y38 = .pointer (some ⟨bM, oM + 2, none⟩) := hd38
                    obtain rfl : y30 = .bool false := hd30
                    obtain ⟨⟨g0, g1, g2⟩, ⟨k0, k1⟩, m2⟩ := HG.out W hb
                    have g169 := f169
                    rw [Array.getD_eq_getD_getElem?] at g169
                    have g161 := f161
                    rw [Array.getD_eq_getD_getElem?] at g161
                    clear hdep hT
                    refine wpList_guard (wanted_false (j := 30) (d := 161) rfl (by kernel_rfl) f161) rfl ?_
                    go_wp2
                    exact ⟨rfl, _, rfl, Below.refl _ _, rfl⟩
                  · cases ho
                    obtain ⟨y30, f161⟩ : ∃ y, T.getD 161 undef = y := ⟨_, rfl⟩
                    have hd30 : ph15 B12 bI oI c12 bM oM mm c2 C9 C10 j 30 y30 W := by rw [← f161]; exact hdep 30 (by omega) (by kernel_rfl)
                    have f10 : T.getD 10 undef = .slice (some ⟨C10, 0, none⟩) 3 3 := (hT 10 (by decide)).trans (by kernel_rfl)
                    obtain rfl : y30 = .bool false := hd30
                    have g161 := f161
                    rw [Array.getD_eq_getD_getElem?] at g161
                    have g10 := f10
                    rw [Array.getD_eq_getD_getElem?] at g10
                    clear hdep hT
                    refine wpList_guard (wanted_false (j := 30) (d := 161) rfl (by kernel_rfl) f161) rfl ?_
                    go_wp2
                    exact ⟨rfl, _, rfl, Below.refl _ _, rfl⟩
                  · cases ho
                    obtain ⟨y30, f161⟩ : ∃ y, T.getD 161 undef = y := ⟨_, rfl⟩
                    have hd30 : ph15 B12 bI oI c12 bM oM mm c2 C9 C10 j 30 y30 W := by rw [← f161]; exact hdep 30 (by omega) (by kernel_rfl)
                    have f11 : T.getD 11 undef = .int .i64 (j : Int) := (hT 11 (by decide)).trans (by kernel_rfl)
                    obtain rfl : y30 = .bool false := hd30
                    have g161 := f161
                    rw [Array.getD_eq_getD_getElem?] at g161
                    have g11 := f11
                    rw [Array.getD_eq_getD_getElem?] at g11
                    clear hdep hT
                    refine wpList_guard (wanted_false (j := 30) (d := 161) rfl (by kernel_rfl) f161) rfl ?_
                    go_wp2
                    exact ⟨rfl, _, rfl, Below.refl _ _, rfl⟩
                  · cases ho
                    obtain ⟨y40, f171⟩ : ∃ y, T.getD 171 undef = y := ⟨_, rfl⟩
                    have hd40 : ph15 B12 bI oI c12 bM oM mm c2 C9 C10 j 40 y40 W := by rw [← f171]; exact hdep 40 (by omega) (by kernel_rfl)
                    obtain ⟨y41, f172⟩ : ∃ y, T.getD 172 undef = y := ⟨_, rfl⟩
                    have hd41 : ph15 B12 bI oI c12 bM oM mm c2 C9 C10 j 41 y41 W := by rw [← f172]; exact hdep 41 (by omega) (by kernel_rfl)
                    obtain ⟨y30, f161⟩ : ∃ y, T.getD 161 undef = y := ⟨_, rfl⟩
                    have hd30 : ph15 B12 bI oI c12 bM oM mm c2 C9 C10 j 30 y30 W := by rw [← f161]; exact hdep 30 (by omega) (by kernel_rfl)
                    obtain rfl : y40 = .slice (some ⟨C10, 0, none⟩) 3 3 := hd40
                    obtain rfl : y41 = .int .i64 (j : Int) := hd41
                    obtain rfl : y30 = .bool false := hd30
                    have g171 := f171
                    rw [Array.getD_eq_getD_getElem?] at g171
                    have g172 := f172
                    rw [Array.getD_eq_getD_getElem?] at g172
                    have g161 := f161
                    rw [Array.getD_eq_getD_getElem?] at g161
                    clear hdep hT
                    refine wpList_guard (wanted_false (j := 30) (d := 161) rfl (by kernel_rfl) f161) rfl ?_
                    go_wp2
                    exact ⟨rfl, _, rfl, Below.refl _ _, rfl⟩
                  · cases ho
                    obtain ⟨y42, f173⟩ : ∃ y, T.getD 173 undef = y := ⟨_, rfl⟩
                    have hd42 : ph15 B12 bI oI c12 bM oM mm c2 C9 C10 j 42 y42 W := by rw [← f173]; exact hdep 42 (by omega) (by kernel_rfl)
                    obtain ⟨y30, f161⟩ : ∃ y, T.getD 161 undef = y := ⟨_, rfl⟩
                    have hd30 : ph15 B12 bI oI c12 bM oM mm c2 C9 C10 j 30 y30 W := by rw [← f161]; exact hdep 30 (by omega) (by kernel_rfl)
                    obtain rfl : y42 = .pointer (some ⟨C10, j, none⟩) := hd42
                    obtain rfl : y30 = .bool false := hd30
                    obtain ⟨n0, n1, n2⟩ := HAT.out W hb
                    have g173 := f173
                    rw [Array.getD_eq_getD_getElem?] at g173
                    have g161 := f161
                    rw [Array.getD_eq_getD_getElem?] at g161
                    clear hdep hT
                    refine wpList_guard (wanted_false (j := 30) (d := 161) rfl (by kernel_rfl) f161) rfl ?_
                    go_wp2
                    exact ⟨rfl, _, rfl, Below.refl _ _, rfl⟩
                  · cases ho
                    obtain ⟨y39, f170⟩ : ∃ y, T.getD 170 undef = y := ⟨_, rfl⟩
                    have hd39 : ph15 B12 bI oI c12 bM oM mm c2 C9 C10 j 39 y39 W := by rw [← f170]; exact hdep 39 (by omega) (by kernel_rfl)
                    obtain ⟨y43, f174⟩ : ∃ y, T.getD 174 undef = y := ⟨_, rfl⟩
                    have hd43 : ph15 B12 bI oI c12 bM oM mm c2 C9 C10 j 43 y43 W := by rw [← f174]; exact hdep 43 (by omega) (by kernel_rfl)
                    obtain ⟨y30, f161⟩ : ∃ y, T.getD 161 undef = y := ⟨_, rfl⟩
                    have hd30 : ph15 B12 bI oI c12 bM oM mm c2 C9 C10 j 30 y30 W := by rw [← f161]; exact hdep 30 (by omega) (by kernel_rfl)
                    obtain rfl : y39 = .string (txK j) := hd39
                    obtain rfl : y43 = .string (txK j) := hd43
                    obtain rfl : y30 = .bool false := hd30
                    have g170 := f170
                    rw [Array.getD_eq_getD_getElem?] at g170
                    have g174 := f174
                    rw [Array.getD_eq_getD_getElem?] at g174
                    have g161 := f161
                    rw [Array.getD_eq_getD_getElem?] at g161
                    clear hdep hT
                    refine wpList_guard (wanted_false (j := 30) (d := 161) rfl (by kernel_rfl) f161) rfl ?_
                    go_wp2
                    exact ⟨rfl, _, rfl, Below.refl _ _, rfl⟩
                  · cases ho
                    obtain ⟨y30, f161⟩ : ∃ y, T.getD 161 undef = y := ⟨_, rfl⟩
                    have hd30 : ph15 B12 bI oI c12 bM oM mm c2 C9 C10 j 30 y30 W := by rw [← f161]; exact hdep 30 (by omega) (by kernel_rfl)
                    obtain ⟨y44, f175⟩ : ∃ y, T.getD 175 undef = y := ⟨_, rfl⟩
                    have hd44 : ph15 B12 bI oI c12 bM oM mm c2 C9 C10 j 44 y44 W := by rw [← f175]; exact hdep 44 (by omega) (by kernel_rfl)
                    obtain rfl : y30 = .bool false := hd30
                    obtain rfl : y44 = .bool false := hd44
                    have g161 := f161
                    rw [Array.getD_eq_getD_getElem?] at g161
                    have g175 := f175
                    rw [Array.getD_eq_getD_getElem?] at g175
                    clear hdep hT
                    go_wp2
                    exact ⟨rfl, _, rfl, Below.refl _ _, rfl⟩
                  · cases ho
                    obtain ⟨y45, f176⟩ : ∃ y, T.getD 176 undef = y := ⟨_, rfl⟩
                    have hd45 : ph15 B12 bI oI c12 bM oM mm c2 C9 C10 j 45 y45 W := by rw [← f176]; exact hdep 45 (by omega) (by kernel_rfl)
                    obtain rfl : y45 = .bool false := hd45
                    have g176 := f176
                    rw [Array.getD_eq_getD_getElem?] at g176
                    clear hdep hT
                    go_wp2
                    exact ⟨rfl, _, rfl, Below.refl _ _, rfl⟩
                  · cases ho
                    obtain ⟨y46, f177⟩ : ∃ y, T.getD 177 undef = y := ⟨_, rfl⟩
                    have hd46 : ph15 B12 bI oI c12 bM oM mm c2 C9 C10 j 46 y46 W := by rw [← f177]; exact hdep 46 (by omega) (by kernel_rfl)
                    have f12 : T.getD 12 undef = .pointer (some ⟨B12, 0, none⟩) := (hT 12 (by decide)).trans (by kernel_rfl)
                    obtain rfl : y46 = .bool false := hd46
                    have g177 := f177
                    rw [Array.getD_eq_getD_getElem?] at g177
                    have g12 := f12
                    rw [Array.getD_eq_getD_getElem?] at g12
                    clear hdep hT
                    refine wpList_guard (wanted_false (j := 46) (d := 177) rfl (by kernel_rfl) f177) rfl ?_
                    go_wp2
                    exact ⟨rfl, _, rfl, Below.refl _ _, rfl⟩
                  · cases ho
                    obtain ⟨y47, f178⟩ : ∃ y, T.getD 178 undef = y := ⟨_, rfl⟩
                    have hd47 : ph15 B12 bI oI c12 bM oM mm c2 C9 C10 j 47 y47 W := by rw [← f178]; exact hdep 47 (by omega) (by kernel_rfl)
                    obtain ⟨y46, f177⟩ : ∃ y, T.getD 177 undef = y := ⟨_, rfl⟩
                    have hd46 : ph15 B12 bI oI c12 bM oM mm c2 C9 C10 j 46 y46 W := by rw [← f177]; exact hdep 46 (by omega) (by kernel_rfl)
                    obtain rfl : y47 = .pointer (some ⟨B12, 5, none⟩) := hd47
                    obtain rfl : y46 = .bool false := hd46
                    obtain ⟨l0, l1, l2, l3, l4, l5, l6, l7⟩ := blk8c (M9.out.go hb).x
                    have g178 := f178
                    rw [Array.getD_eq_getD_getElem?] at g178
                    have g177 := f177
                    rw [Array.getD_eq_getD_getElem?] at g177
                    clear hdep hT
                    refine wpList_guard (wanted_false (j := 46) (d := 177) rfl (by kernel_rfl) f177) rfl ?_
                    go_wp2
                    exact ⟨rfl, _, rfl, Below.refl _ _, rfl⟩
                  · cases ho
                    obtain ⟨y48, f179⟩ : ∃ y, T.getD 179 undef = y := ⟨_, rfl⟩
                    have hd48 : ph15 B12 bI oI c12 bM oM mm c2 C9 C10 j 48 y48 W := by rw [← f179]; exact hdep 48 (by omega) (by kernel_rfl)
                    obtain ⟨y46, f177⟩ : ∃ y, T.getD 177 undef = y := ⟨_, rfl⟩
                    have hd46 : ph15 B12 bI oI c12 bM oM mm c2 C9 C10 j 46 y46 W := by rw [← f177]; exact hdep 46 (by omega) (by kernel_rfl)
                    obtain rfl : y48 = .slice (some ⟨bI, oI, none⟩) 3 c12 := hd48
                    obtain rfl : y46 = .bool false := hd46
                    have g179 := f179
                    rw [Array.getD_eq_getD_getElem?] at g179
                    have g177 := f177
                    rw [Array.getD_eq_getD_getElem?] at g177
                    clear hdep hT
                    refine wpList_guard (wanted_false (j := 46) (d := 177) rfl (by kernel_rfl) f177) rfl ?_
                    go_wp2
                    exact ⟨rfl, _, rfl, Below.refl _ _, rfl⟩
                  · cases ho
                    obtain ⟨y49, f180⟩ : ∃ y, T.getD 180 undef = y := ⟨_, rfl⟩
                    have hd49 : ph15 B12 bI oI c12 bM oM mm c2 C9 C10 j 49 y49 W := by rw [← f180]; exact hdep 49 (by omega) (by kernel_rfl)
                    obtain ⟨y46, f177⟩ : ∃ y, T.getD 177 undef = y := ⟨_, rfl⟩
                    have hd46 : ph15 B12 bI oI c12 bM oM mm c2 C9 C10 j 46 y46 W := by rw [← f177]; exact hdep 46 (by omega) (by kernel_rfl)
                    obtain rfl : y49 = .pointer (some ⟨bI, oI + 6, none⟩) := hd49
                    obtain rfl : y46 = .bool false := hd46
                    have g180 := f180
                    rw [Array.getD_eq_getD_getElem?] at g180
                    have g177 := f177
                    rw [Array.getD_eq_getD_getElem?] at g177
                    clear hdep hT
                    refine wpList_guard (wanted_false (j := 46) (d := 177) rfl (by kernel_rfl) f177) rfl ?_
                    go_wp2
                    exact ⟨rfl, _, rfl, Below.refl _ _, rfl⟩
                  · cases ho
                    obtain ⟨y50, f181⟩ : ∃ y, T.getD 181 undef = y := ⟨_, rfl⟩
                    have hd50 : ph15 B12 bI oI c12 bM oM mm c2 C9 C10 j 50 y50 W := by rw [← f181]; exact hdep 50 (by omega) (by kernel_rfl)
                    obtain ⟨y46, f177⟩ : ∃ y, T.getD 177 undef = y := ⟨_, rfl⟩
                    have hd46 : ph15 B12 bI oI c12 bM oM mm c2 C9 C10 j 46 y46 W := by rw [← f177]; exact hdep 46 (by omega) (by kernel_rfl)
                    obtain rfl : y50 = .pointer (some ⟨bI, oI + 6, none⟩) := hd50
                    obtain rfl : y46 = .bool false := hd46
                    obtain ⟨⟨g0, g1, g2⟩, ⟨k0, k1⟩, m2⟩ := HG.out W hb
                    have g181 := f181
                    rw [Array.getD_eq_getD_getElem?] at g181
                    have g177 := f177
                    rw [Array.getD_eq_getD_getElem?] at g177
                    clear hdep hT
                    refine wpList_guard (wanted_false (j := 46) (d := 177) rfl (by kernel_rfl) f177) rfl ?_
                    go_wp2
                    exact ⟨rfl, _, rfl, Below.refl _ _, rfl⟩
                  · cases ho
                    obtain ⟨y46, f177⟩ : ∃ y, T.getD 177 undef = y := ⟨_, rfl⟩
                    have hd46 : ph15 B12 bI oI c12 bM oM mm c2 C9 C10 j 46 y46 W := by rw [← f177]; exact hdep 46 (by omega) (by kernel_rfl)
                    obtain rfl : y46 = .bool false := hd46
                    have g177 := f177
                    rw [Array.getD_eq_getD_getElem?] at g177
                    clear hdep hT
                    refine wpList_guard (wanted_false (j := 46) (d := 177) rfl (by kernel_rfl) f177) rfl ?_
                    go_wp2_with fail
                    refine (number_any _ _).mono ?_
                    rintro e w1 ⟨rfl, hb1⟩
                    go_wp2
                    exact ⟨rfl, _, rfl, hb1, rfl⟩
                  · cases ho
                    obtain ⟨y51, f182⟩ : ∃ y, T.getD 182 undef = y := ⟨_, rfl⟩
                    have hd51 : ph15 B12 bI oI c12 bM oM mm c2 C9 C10 j 51 y51 W := by rw [← f182]; exact hdep 51 (by omega) (by kernel_rfl)
                    obtain ⟨y52, f183⟩ : ∃ y, T.getD 183 undef = y := ⟨_, rfl⟩
                    have hd52 : ph15 B12 bI oI c12 bM oM mm c2 C9 C10 j 52 y52 W := by rw [← f183]; exact hdep 52 (by omega) (by kernel_rfl)
                    obtain ⟨y46, f177⟩ : ∃ y, T.getD 177 undef = y := ⟨_, rfl⟩
                    have hd46 : ph15 B12 bI oI c12 bM oM mm c2 C9 C10 j 46 y46 W := by rw [← f177]; exact hdep 46 (by omega) (by kernel_rfl)
                    obtain rfl : y51 = .agg #[.int .i64 3, .string d3] := hd51
                    obtain rfl : y52 = .agg #[.int .i64 3, .string d3] := hd52
                    obtain rfl : y46 = .bool false := hd46
                    have g182 := f182
                    rw [Array.getD_eq_getD_getElem?] at g182
                    have g183 := f183
                    rw [Array.getD_eq_getD_getElem?] at g183
                    have g177 := f177
                    rw [Array.getD_eq_getD_getElem?] at g177
                    clear hdep hT
                    refine wpList_guard (wanted_false (j := 46) (d := 177) rfl (by kernel_rfl) f177) rfl ?_
                    go_wp2
                    exact ⟨rfl, _, rfl, Below.refl _ _, rfl⟩
                  · cases ho
                    obtain ⟨y46, f177⟩ : ∃ y, T.getD 177 undef = y := ⟨_, rfl⟩
                    have hd46 : ph15 B12 bI oI c12 bM oM mm c2 C9 C10 j 46 y46 W := by rw [← f177]; exact hdep 46 (by omega) (by kernel_rfl)
                    obtain ⟨y53, f184⟩ : ∃ y, T.getD 184 undef = y := ⟨_, rfl⟩
                    have hd53 : ph15 B12 bI oI c12 bM oM mm c2 C9 C10 j 53 y53 W := by rw [← f184]; exact hdep 53 (by omega) (by kernel_rfl)
                    obtain rfl : y46 = .bool false := hd46
                    obtain rfl : y53 = .bool false := hd53
                    have g177 := f177
                    rw [Array.getD_eq_getD_getElem?] at g177
                    have g184 := f184
                    rw [Array.getD_eq_getD_getElem?] at g184
                    clear hdep hT
                    go_wp2
                    exact ⟨rfl, _, rfl, Below.refl _ _, rfl⟩
                · intro ys W hys hb hall
                  obtain ⟨y0, y1, y2, y3, y4, y5, y6, y7, y8, y9, y10, y11, y12, y13, y14, y15, y16, y17, y18, y19, y20, y21, y22, y23, y24, y25, y26, y27, y28, y29, y30, y31, y32, y33, y34, y35, y36, y37, y38, y39, y40, y41, y42, y43, y44, y45, y46, y47, y48, y49, y50, y51, y52, y53, y54, rfl⟩ := list55 hys
                  simp only [setM, List.setIfInBounds_toArray, List.set_cons_zero, List.set_cons_succ]
                  obtain rfl : y54 = .bool false := hall 54 (by omega)
                  clear hall
                  simp only [List.drop_succ_cons, List.drop_zero, List.drop_nil]
                  have S10 := Lib.hid (And.intro (S9.out.1.go hb) (S9.out.2.go hb))
                  clear hb S9 M9 HG HAT
                  generalize W = W10 at *
                  go_wp2
                  go_roundw
                  case rel => exact ⟨j + 1, by omega, by go_num, S10⟩
                  case measure => simp [intOf]; omega
            · obtain rfl : j = 3 := by omega
              go_wp2_with fail
              refine wp_region_drawnF2 (by kernel_rfl) 8 374 [187, 188, 189, 190, 186, 191, 192, 14] [6] (ph17 wr.heap.size Q7) rfl (by kernel_rfl) (ph17m _ _) ?_ ?_ ?_ ?_
              · intro T hT i o hi ho W hb hdep
                have hi' : i = 0 ∨ i = 1 ∨ i = 2 ∨ i = 3 ∨ i = 4 ∨ i = 5 ∨ i = 6 ∨ i = 7 := by omega
                clear hi
                rcases hi' with rfl | rfl | rfl | rfl | rfl | rfl | rfl | rfl
                · cases ho
                  clear hdep hT
                  go_wp2_with fail
                  refine (twoK _).mono ?_
                  rintro e w1 ⟨⟨u, Y1, Y2, rfl, hr, h1, h2, h3⟩, hb1⟩
                  go_wp2
                  exact ⟨rfl, _, rfl, hb1, u, Y1, Y2, rfl, hr, h1, h2, Nat.le_trans hb.size h3⟩
                · cases ho
                  have f7 : T.getD 7 undef = .pointer (some ⟨B7, 0, none⟩) := (hT 7 (by decide)).trans (by kernel_rfl)
                  obtain ⟨l0, l1, l2, l3, l4, l5, l6, l7⟩ := blk8c (HR.out.1.go hb).n.x
                  have g7 := f7
                  rw [Array.getD_eq_getD_getElem?] at g7
                  clear hdep hT
                  go_wp2
                  exact ⟨rfl, _, rfl, Below.refl _ _, rfl⟩
                · cases ho
                  obtain ⟨y1, f188⟩ : ∃ y, T.getD 188 undef = y := ⟨_, rfl⟩
                  have hd1 : ph17 wr.heap.size Q7 false 1 y1 W := by rw [← f188]; exact hdep 1 (by omega) (by kernel_rfl)
                  obtain ⟨y0, f187⟩ : ∃ y, T.getD 187 undef = y := ⟨_, rfl⟩
                  have hd0 : ph17 wr.heap.size Q7 false 0 y0 W := by rw [← f187]; exact hdep 0 (by omega) (by kernel_rfl)
                  obtain rfl : y1 = itV (mapR (.slice (some ⟨Q7, 0, none⟩) 2 2)) := hd1
                  obtain ⟨u, Y1, Y2, rfl, hr, h1, h2, h3⟩ : ∃ u Y1 Y2, y0 = itV (mapR u) ∧ RdP W (mapL Y1 Y2) u ∧ TX W Y1 sa ∧ TX W Y2 sb ∧ wr.heap.size ≤ Y2 := hd0
                  obtain ⟨Au, cu, eu, _⟩ := RdP.form hr
                  obtain rfl : u = .slice Au 2 cu := eu
                  try simp only [itV, mapR] at f188
                  try simp only [itV, mapR] at f187
                  have g188 := f188
                  rw [Array.getD_eq_getD_getElem?] at g188
                  have g187 := f187
                  rw [Array.getD_eq_getD_getElem?] at g187
                  clear hdep hT
                  go_wp2
                  exact ⟨rfl, _, rfl, box1 _ _ _, .slice Au 2 cu, Y1, Y2, lite_two (x := mapR (.slice Au 2 cu)) (y := mapR (.slice (some ⟨Q7, 0, none⟩) 2 2)), RdRows.below hr (box1 _ _ _), h1.go (box1 _ _ _), h2.go (box1 _ _ _), h3⟩
                · cases ho
                  obtain ⟨y2, f189⟩ : ∃ y, T.getD 189 undef = y := ⟨_, rfl⟩
                  have hd2 : ph17 wr.heap.size Q7 false 2 y2 W := by rw [← f189]; exact hdep 2 (by omega) (by kernel_rfl)
                  obtain ⟨u, Y1, Y2, hv, hr, h1, h2, h3⟩ : ∃ u Y1 Y2, RdI W [mapR u, mapR (.slice (some ⟨Q7, 0, none⟩) 2 2)] y2 ∧ RdP W (mapL Y1 Y2) u ∧ TX W Y1 sa ∧ TX W Y2 sb ∧ wr.heap.size ≤ Y2 := hd2
                  have hne : Y2 ≠ X4 := fun e => by have := HR.out.1.t4.2; omega
                  have g189 := f189
                  rw [Array.getD_eq_getD_getElem?] at g189
                  clear hdep hT
                  go_wp2_with fail
                  refine (mergeTwo .reject W hne hv hr (HR.out.1.go hb).n.r h1 h2 (HR.out.1.go hb).t4 (HR.out.1.go hb).t5).mono ?_
                  rintro e w1 ⟨rfl, hb1⟩
                  go_wp2
                  exact ⟨rfl, _, rfl, hb1, z0, rfl, .z0⟩
                · cases ho
                  obtain ⟨y3, f190⟩ : ∃ y, T.getD 190 undef = y := ⟨_, rfl⟩
                  have hd3 : ph17 wr.heap.size Q7 false 3 y3 W := by rw [← f190]; exact hdep 3 (by omega) (by kernel_rfl)
                  obtain ⟨x, rfl, hx⟩ : ∃ x, y3 = .tuple #[itV x, .int .i64 4] ∧ ROk x := hd3
                  have g190 := f190
                  rw [Array.getD_eq_getD_getElem?] at g190
                  clear hdep hT
                  go_wp2
                  exact ⟨rfl, _, rfl, Below.refl _ _, x, rfl, hx⟩
                · cases ho
                  obtain ⟨y4, f186⟩ : ∃ y, T.getD 186 undef = y := ⟨_, rfl⟩
                  have hd4 : ph17 wr.heap.size Q7 false 4 y4 W := by rw [← f186]; exact hdep 4 (by omega) (by kernel_rfl)
                  obtain ⟨x, rfl, hx⟩ : ∃ x, y4 = .tuple #[itV x, .int .i64 4] ∧ ROk x := hd4
                  have g186 := f186
                  rw [Array.getD_eq_getD_getElem?] at g186
                  clear hdep hT
                  go_wp2
                  exact ⟨rfl, _, rfl, Below.refl _ _, x, rfl, hx⟩
                · cases ho
                  obtain ⟨y4, f186⟩ : ∃ y, T.getD 186 undef = y := ⟨_, rfl⟩
                  have hd4 : ph17 wr.heap.size Q7 false 4 y4 W := by rw [← f186]; exact hdep 4 (by omega) (by kernel_rfl)
                  obtain ⟨x, rfl, hx⟩ : ∃ x, y4 = .tuple #[itV x, .int .i64 4] ∧ ROk x := hd4
                  have g186 := f186
                  rw [Array.getD_eq_getD_getElem?] at g186
                  clear hdep hT
                  go_wp2
                  exact ⟨rfl, _, rfl, Below.refl _ _, rfl⟩
                · cases ho
                  clear hdep hT
                  go_wp2
                  exact ⟨rfl, _, rfl, box1 _ _ _, _, rfl, hp_new rfl, hb.size⟩
              · intro T hT i o hl hi ho W hb hdep
                have hi' : i = 6 := by simpa using hl
                clear hl hi
                rcases hi' with rfl
                · cases ho
                  obtain ⟨y4, f186⟩ : ∃ y, T.getD 186 undef = y := ⟨_, rfl⟩
                  have hd4 : ph17 wr.heap.size Q7 true 4 y4 W := by rw [← f186]; exact hdep 4 (by omega) (by kernel_rfl)
                  obtain ⟨x, rfl, hx⟩ : ∃ x, y4 = .tuple #[itV x, .int .i64 4] ∧ ROk x := hd4
                  have g186 := f186
                  rw [Array.getD_eq_getD_getElem?] at g186
                  clear hdep hT
                  go_wp2
                  exact ⟨rfl, _, rfl, Below.refl _ _, rfl⟩
              · intro T hT o ho W hb hdep
                cases ho
                obtain ⟨y5, f191⟩ : ∃ y, T.getD 191 undef = y := ⟨_, rfl⟩
                have hd5 : ph17 wr.heap.size Q7 false 5 y5 W := by rw [← f191]; exact hdep 5 (by omega) (by kernel_rfl)
                obtain ⟨y7, f14⟩ : ∃ y, T.getD 14 undef = y := ⟨_, rfl⟩
                have hd7 : ph17 wr.heap.size Q7 false 7 y7 W := by rw [← f14]; exact hdep 7 (by omega) (by kernel_rfl)
                obtain ⟨x, rfl, hx⟩ : ∃ x, y5 = itV x ∧ ROk x := hd5
                obtain ⟨Bx, rfl, hzx, hlx⟩ : NewB wr.heap.size y7 W := hd7
                refine wpList_putB rfl (.tmp 14) (.tmp 191) rfl rfl Bx x f14 f191 hzx hx ?_
                refine ⟨rfl, rfl, putB_below hb hlx, fun j' hj' h => ?_⟩
                match j', hj', h with
                | 0, _, h => exact trivial
                | 1, _, h => exact h
                | 2, _, h => exact trivial
                | 3, _, h => exact h
                | 4, _, h => exact h
                | 5, _, h => exact h
                | 6, _, h => exact h
                | 7, _, h => exact trivial
              · intro ys W hys hb hall
                obtain ⟨y0, y1, y2, y3, y4, y5, y6, y7, rfl⟩ := list8 hys
                simp only [setM, List.setIfInBounds_toArray, List.set_cons_zero, List.set_cons_succ]
                obtain rfl : y6 = .int .i64 4 := hall 6 (by omega)
                clear hall
                simp only [List.drop_succ_cons, List.drop_zero]
                have S17 := Lib.hid (HR.out.1.go hb)
                clear hb HR
                generalize W = W17 at *
                go_wp2_with fail
                refine wp_region_drawnF2 (by kernel_rfl) 8 374 [194, 195, 196, 197, 193, 198, 199, 16] [6] (ph18 W17.heap.size Q7) rfl (by kernel_rfl) (ph18m _ _) ?_ ?_ ?_ ?_
                · intro T hT i o hi ho W hb hdep
                  have hi' : i = 0 ∨ i = 1 ∨ i = 2 ∨ i = 3 ∨ i = 4 ∨ i = 5 ∨ i = 6 ∨ i = 7 := by omega
                  clear hi
                  rcases hi' with rfl | rfl | rfl | rfl | rfl | rfl | rfl | rfl
                  · cases ho
                    clear hdep hT
                    go_wp2_with fail
                    refine (twoK _).mono ?_
                    rintro e w1 ⟨⟨u, Y1, Y2, rfl, hr, h1, h2, h3⟩, hb1⟩
                    go_wp2
                    exact ⟨rfl, _, rfl, hb1, u, Y1, Y2, rfl, hr, h1, h2, Nat.le_trans hb.size h3⟩
                  · cases ho
                    have f7 : T.getD 7 undef = .pointer (some ⟨B7, 0, none⟩) := (hT 7 (by decide)).trans (by kernel_rfl)
                    obtain ⟨l0, l1, l2, l3, l4, l5, l6, l7⟩ := blk8c (S17.out.go hb).n.x
                    have g7 := f7
                    rw [Array.getD_eq_getD_getElem?] at g7
                    clear hdep hT
                    go_wp2
                    exact ⟨rfl, _, rfl, Below.refl _ _, rfl⟩
                  · cases ho
                    obtain ⟨y1, f195⟩ : ∃ y, T.getD 195 undef = y := ⟨_, rfl⟩
                    have hd1 : ph18 W17.heap.size Q7 false 1 y1 W := by rw [← f195]; exact hdep 1 (by omega) (by kernel_rfl)
                    obtain ⟨y0, f194⟩ : ∃ y, T.getD 194 undef = y := ⟨_, rfl⟩
                    have hd0 : ph18 W17.heap.size Q7 false 0 y0 W := by rw [← f194]; exact hdep 0 (by omega) (by kernel_rfl)
                    obtain rfl : y1 = itV (mapR (.slice (some ⟨Q7, 0, none⟩) 2 2)) := hd1
                    obtain ⟨u, Y1, Y2, rfl, hr, h1, h2, h3⟩ : ∃ u Y1 Y2, y0 = itV (mapR u) ∧ RdP W (mapL Y1 Y2) u ∧ TX W Y1 sa ∧ TX W Y2 sb ∧ W17.heap.size ≤ Y2 := hd0
                    obtain ⟨Au, cu, eu, _⟩ := RdP.form hr
                    obtain rfl : u = .slice Au 2 cu := eu
                    try simp only [itV, mapR] at f195
                    try simp only [itV, mapR] at f194
                    have g195 := f195
                    rw [Array.getD_eq_getD_getElem?] at g195
                    have g194 := f194
                    rw [Array.getD_eq_getD_getElem?] at g194
                    clear hdep hT
                    go_wp2
                    exact ⟨rfl, _, rfl, box1 _ _ _, .slice Au 2 cu, Y1, Y2, lite_two (x := mapR (.slice Au 2 cu)) (y := mapR (.slice (some ⟨Q7, 0, none⟩) 2 2)), RdRows.below hr (box1 _ _ _), h1.go (box1 _ _ _), h2.go (box1 _ _ _), h3⟩
                  · cases ho
                    obtain ⟨y2, f196⟩ : ∃ y, T.getD 196 undef = y := ⟨_, rfl⟩
                    have hd2 : ph18 W17.heap.size Q7 false 2 y2 W := by rw [← f196]; exact hdep 2 (by omega) (by kernel_rfl)
                    obtain ⟨u, Y1, Y2, hv, hr, h1, h2, h3⟩ : ∃ u Y1 Y2, RdI W [mapR u, mapR (.slice (some ⟨Q7, 0, none⟩) 2 2)] y2 ∧ RdP W (mapL Y1 Y2) u ∧ TX W Y1 sa ∧ TX W Y2 sb ∧ W17.heap.size ≤ Y2 := hd2
                    have g196 := f196
                    rw [Array.getD_eq_getD_getElem?] at g196
                    clear hdep hT
                    go_wp2_with fail
                    refine (mergeWord_any _ W).mono ?_
                    rintro e w1 ⟨rfl, hb1⟩
                    go_wp2
                    exact ⟨rfl, _, rfl, hb1, z0, rfl, .z0⟩
                  · cases ho
                    obtain ⟨y3, f197⟩ : ∃ y, T.getD 197 undef = y := ⟨_, rfl⟩
                    have hd3 : ph18 W17.heap.size Q7 false 3 y3 W := by rw [← f197]; exact hdep 3 (by omega) (by kernel_rfl)
                    obtain ⟨x, rfl, hx⟩ : ∃ x, y3 = .tuple #[itV x, .int .i64 1] ∧ ROk x := hd3
                    have g197 := f197
                    rw [Array.getD_eq_getD_getElem?] at g197
                    clear hdep hT
                    go_wp2
                    exact ⟨rfl, _, rfl, Below.refl _ _, x, rfl, hx⟩
                  · cases ho
                    obtain ⟨y4, f193⟩ : ∃ y, T.getD 193 undef = y := ⟨_, rfl⟩
                    have hd4 : ph18 W17.heap.size Q7 false 4 y4 W := by rw [← f193]; exact hdep 4 (by omega) (by kernel_rfl)
                    obtain ⟨x, rfl, hx⟩ : ∃ x, y4 = .tuple #[itV x, .int .i64 1] ∧ ROk x := hd4
                    have g193 := f193
                    rw [Array.getD_eq_getD_getElem?] at g193
                    clear hdep hT
                    go_wp2
                    exact ⟨rfl, _, rfl, Below.refl _ _, x, rfl, hx⟩
                  · cases ho
                    obtain ⟨y4, f193⟩ : ∃ y, T.getD 193 undef = y := ⟨_, rfl⟩
                    have hd4 : ph18 W17.heap.size Q7 false 4 y4 W := by rw [← f193]; exact hdep 4 (by omega) (by kernel_rfl)
                    obtain ⟨x, rfl, hx⟩ : ∃ x, y4 = .tuple #[itV x, .int .i64 1] ∧ ROk x := hd4
                    have g193 := f193
                    rw [Array.getD_eq_getD_getElem?] at g193
                    clear hdep hT
                    go_wp2
                    exact ⟨rfl, _, rfl, Below.refl _ _, rfl⟩
                  · cases ho
                    clear hdep hT
                    go_wp2
                    exact ⟨rfl, _, rfl, box1 _ _ _, _, rfl, hp_new rfl, hb.size⟩
                · intro T hT i o hl hi ho W hb hdep
                  have hi' : i = 6 := by simpa using hl
                  clear hl hi
                  rcases hi' with rfl
                  · cases ho
                    obtain ⟨y4, f193⟩ : ∃ y, T.getD 193 undef = y := ⟨_, rfl⟩
                    have hd4 : ph18 W17.heap.size Q7 true 4 y4 W := by rw [← f193]; exact hdep 4 (by omega) (by kernel_rfl)
                    obtain ⟨x, rfl, hx⟩ : ∃ x, y4 = .tuple #[itV x, .int .i64 1] ∧ ROk x := hd4
                    have g193 := f193
                    rw [Array.getD_eq_getD_getElem?] at g193
                    clear hdep hT
                    go_wp2
                    exact ⟨rfl, _, rfl, Below.refl _ _, rfl⟩
                · intro T hT o ho W hb hdep
                  cases ho
                  obtain ⟨y5, f198⟩ : ∃ y, T.getD 198 undef = y := ⟨_, rfl⟩
                  have hd5 : ph18 W17.heap.size Q7 false 5 y5 W := by rw [← f198]; exact hdep 5 (by omega) (by kernel_rfl)
                  obtain ⟨y7, f16⟩ : ∃ y, T.getD 16 undef = y := ⟨_, rfl⟩
                  have hd7 : ph18 W17.heap.size Q7 false 7 y7 W := by rw [← f16]; exact hdep 7 (by omega) (by kernel_rfl)
                  obtain ⟨x, rfl, hx⟩ : ∃ x, y5 = itV x ∧ ROk x := hd5
                  obtain ⟨Bx, rfl, hzx, hlx⟩ : NewB W17.heap.size y7 W := hd7
                  refine wpList_putB rfl (.tmp 16) (.tmp 198) rfl rfl Bx x f16 f198 hzx hx ?_
                  refine ⟨rfl, rfl, putB_below hb hlx, fun j' hj' h => ?_⟩
                  match j', hj', h with
                  | 0, _, h => exact trivial
                  | 1, _, h => exact h
                  | 2, _, h => exact trivial
                  | 3, _, h => exact h
                  | 4, _, h => exact h
                  | 5, _, h => exact h
                  | 6, _, h => exact h
                  | 7, _, h => exact trivial
                · intro ys W hys hb hall
                  obtain ⟨y0, y1, y2, y3, y4, y5, y6, y7, rfl⟩ := list8 hys
                  simp only [setM, List.setIfInBounds_toArray, List.set_cons_zero, List.set_cons_succ]
                  obtain rfl : y6 = .int .i64 1 := hall 6 (by omega)
                  clear hall
                  simp only [List.drop_succ_cons, List.drop_zero]
                  have S18 := Lib.hid (And.intro (S17.out.go hb).b (S17.out.go hb).a1)
                  clear hb S17
                  generalize W = W18 at *
                  go_wp2_with fail
                  refine (twoK _).mono ?_
                  rintro e V1 ⟨⟨u, Y1, Y2, rfl, hr, h1, h2, h3⟩, hb1⟩
                  obtain ⟨Au, cu, eu, _⟩ := RdP.form hr
                  obtain rfl : u = .slice Au 2 cu := eu
                  have HB := Lib.hid (S18.out.1.trans (hb1.mono S18.out.1.size))
                  have HA := Lib.hid (S18.out.2.go hb1)
                  have HR1 := Lib.hid hr
                  clear h1 h2 h3 hb1 hr S18
                  simp only [itV, mapR]
                  go_wp2_with fail
                  have hv2 := lite_two (W := V1) (x := mapR (.slice Au 2 cu)) (y := z0)
                  have hb2 := box1 V1 30 #[.int .i64 2, .int .i64 0, .string { data := #[] }, .int .i64 0, .int .i64 0, .slice Au 2 cu, .slice none 0 0, .pointer none, .int .i64 0, .int .i64 0, .string { data := #[] }, .int .i64 0, .int .i64 0, .slice none 0 0, .slice none 0 0, .pointer none]
                  refine (mergeK0 hv2 (RdRows.below HR1.out hb2)).mono ?_
                  rintro e V2 ⟨rfl, hb3⟩
                  have hb23 := hb2.trans (hb3.mono hb2.size)
                  have HB2 := Lib.hid (HB.out.trans (hb23.mono HB.out.size))
                  have HA2 := Lib.hid (HA.out.go hb23)
                  clear hb2 hb3 hb23 hv2 HB HA HR1
                  simp only [itV, z0]
                  go_wp2_with fail
                  have hb4 := box1 V2 30 #[.int .i64 0, .int .i64 0, .string { data := #[] }, .int .i64 0, .int .i64 0, .slice none 0 0, .slice none 0 0, .pointer none]
                  refine (mergeNil_any _).mono ?_
                  rintro e V3 ⟨rfl, hb5⟩
                  have hb45 := hb4.trans (hb5.mono hb4.size)
                  have HB3 := Lib.hid (HB2.out.trans (hb45.mono HB2.out.size))
                  have HA3 := Lib.hid (HA2.out.go hb45)
                  clear hb4 hb5 hb45 HB2 HA2
                  simp only [itV, mapR]
                  go_upto_region 21 with fail
                  obtain ⟨W20, hW20⟩ : ∃ W20, V3.alloc (.cells #[.int .i64 2, .int .i64 0, .string { data := #[] }, .int .i64 0, .int .i64 0, .slice none 0 0, .slice none 0 0, .pointer none] 30) = W20 := ⟨_, rfl⟩
                  have hb20 : Below V3.heap.size V3 W20 := hW20 ▸ box1 _ _ _
                  have X20 := Lib.hid (show BI W20 V3.heap.size (mapR nilS) from hW20 ▸ hp_new rfl)
                  have HB20 := Lib.hid (HB3.out.trans (hb20.mono HB3.out.size))
                  have HA20 := Lib.hid (HA3.out.go hb20)
                  rw [hW20]
                  clear hW20 hb20 HB3 HA3
                  generalize V3.heap.size = B20 at *
                  refine wp_region_drawnF (by kernel_rfl) 7 374 [211, 212, 213, 214, 215, 216, 22] (ph21 W20.heap.size) rfl (by kernel_rfl) (ph21m _) ?_ ?_
                  · intro T hT i o hi ho W hb hdep
                    have hi' : i = 0 ∨ i = 1 ∨ i = 2 ∨ i = 3 ∨ i = 4 ∨ i = 5 ∨ i = 6 := by omega
                    clear hi
                    rcases hi' with rfl | rfl | rfl | rfl | rfl | rfl | rfl
                    · cases ho
                      have f1 : T.getD 1 undef = .pointer (some ⟨B1, 0, none⟩) := (hT 1 (by decide)).trans (by kernel_rfl)
                      obtain ⟨l0, l1⟩ := blk2c (HA20.out.go hb)
                      have g1 := f1
                      rw [Array.getD_eq_getD_getElem?] at g1
                      clear hdep hT
                      go_wp2
                      exact ⟨rfl, _, rfl, Below.refl _ _, rfl⟩
                    · cases ho
                      obtain ⟨y0, f211⟩ : ∃ y, T.getD 211 undef = y := ⟨_, rfl⟩
                      have hd0 : ph21 W20.heap.size 0 y0 W := by rw [← f211]; exact hdep 0 (by omega) (by kernel_rfl)
                      obtain rfl : y0 = .agg #[.int .i64 4, .string d1] := hd0
                      have g211 := f211
                      rw [Array.getD_eq_getD_getElem?] at g211
                      clear hdep hT
                      go_wp2
                      exact ⟨rfl, _, rfl, Below.refl _ _, rfl⟩
                    · cases ho
                      clear hdep hT
                      go_wp2_with fail
                      refine (number_any _ _).mono ?_
                      rintro e w1 ⟨rfl, hb1⟩
                      go_wp2
                      exact ⟨rfl, _, rfl, hb1, rfl⟩
                    · cases ho
                      obtain ⟨y2, f213⟩ : ∃ y, T.getD 213 undef = y := ⟨_, rfl⟩
                      have hd2 : ph21 W20.heap.size 2 y2 W := by rw [← f213]; exact hdep 2 (by omega) (by kernel_rfl)
                      obtain rfl : y2 = .agg #[.int .i64 3, .string d1] := hd2
                      have g213 := f213
                      rw [Array.getD_eq_getD_getElem?] at g213
                      clear hdep hT
                      go_wp2
                      exact ⟨rfl, _, rfl, Below.refl _ _, rfl⟩
                    · cases ho
                      obtain ⟨y1, f212⟩ : ∃ y, T.getD 212 undef = y := ⟨_, rfl⟩
                      have hd1 : ph21 W20.heap.size 1 y1 W := by rw [← f212]; exact hdep 1 (by omega) (by kernel_rfl)
                      obtain ⟨y3, f214⟩ : ∃ y, T.getD 214 undef = y := ⟨_, rfl⟩
                      have hd3 : ph21 W20.heap.size 3 y3 W := by rw [← f214]; exact hdep 3 (by omega) (by kernel_rfl)
                      obtain rfl : y1 = .agg #[.int .i64 4, .string d1, .slice none 0 0] := hd1
                      obtain rfl : y3 = .agg #[.int .i64 3, .string d1, .slice none 0 0] := hd3
                      have g212 := f212
                      rw [Array.getD_eq_getD_getElem?] at g212
                      have g214 := f214
                      rw [Array.getD_eq_getD_getElem?] at g214
                      clear hdep hT
                      go_wp2
                      exact ⟨rfl, _, rfl, box1 _ _ _, litp_two (p := ⟨4, d1, nilS⟩) (q := ⟨3, d1, nilS⟩)⟩
                    · cases ho
                      obtain ⟨y4, f215⟩ : ∃ y, T.getD 215 undef = y := ⟨_, rfl⟩
                      have hd4 : ph21 W20.heap.size 4 y4 W := by rw [← f215]; exact hdep 4 (by omega) (by kernel_rfl)
                      have hr : RdP W tL y4 := hd4
                      obtain ⟨A6, c6, e6, _⟩ := RdP.form hr
                      obtain rfl : y4 = .slice A6 2 c6 := e6
                      have g215 := f215
                      rw [Array.getD_eq_getD_getElem?] at g215
                      clear hdep hT
                      go_wp2
                      exact ⟨rfl, _, rfl, Below.refl _ _, _, rfl, hr⟩
                    · cases ho
                      clear hdep hT
                      go_wp2
                      exact ⟨rfl, _, rfl, box1 _ _ _, _, rfl, hp_new rfl, hb.size⟩
                  · intro ys W hys hb hall
                    obtain ⟨y0, y1, y2, y3, y4, y5, y6, rfl⟩ := list7 hys
                    simp only [setM, List.setIfInBounds_toArray, List.set_cons_zero, List.set_cons_succ]
                    obtain ⟨u22, rfl, hr22⟩ : ∃ u, y5 = itV (mapR u) ∧ RdP W tL u := hall 5 (by omega)
                    obtain ⟨B22, rfl, hz22, hl22⟩ : NewB W20.heap.size y6 W := hall 6 (by omega)
                    obtain ⟨A22, c22, e22, _⟩ := RdP.form hr22
                    obtain rfl : u22 = .slice A22 2 c22 := e22
                    clear hall
                    simp only [List.drop_succ_cons, List.drop_zero]
                    refine wpList_putB rfl (.tmp 22) (.tmp 216) rfl rfl B22 (mapR (.slice A22 2 c22)) rfl rfl hz22 ⟨rfl, rfl, rfl⟩ ?_
                    obtain ⟨W21, hW21⟩ : ∃ W21, putB W B22 (mapR (.slice A22 2 c22)) = W21 := ⟨_, rfl⟩
                    have hb21 : Below W20.heap.size W20 W21 := hW21 ▸ putB_below hb hl22
                    have S21 := Lib.hid (show K21 w W21 B1 B20 B22 (.slice A22 2 c22) from ⟨HB20.out.trans (hb21.mono HB20.out.size), HA20.out.go hb21, X20.out.go hb21, ⟨hW21 ▸ putB_bi hz22, hW21 ▸ putB_rdp hr22 (show (4 : Int) ≠ 0 by decide) hz22⟩⟩)
                    rw [hW21]
                    clear hW21 hb21 hz22 hr22 hl22 hb HB20 HA20 X20
                    go_wp2_with fail
                    refine wp_region_drawnF2 (by kernel_rfl) 7 374 [218, 219, 220, 217, 221, 222, 23] [5] (ph22 W21.heap.size A22 c22) rfl (by kernel_rfl) (ph22m _ _ _) ?_ ?_ ?_ ?_
                    · intro T hT i o hi ho W hb hdep
                      have hi' : i = 0 ∨ i = 1 ∨ i = 2 ∨ i = 3 ∨ i = 4 ∨ i = 5 ∨ i = 6 := by omega
                      clear hi
                      rcases hi' with rfl | rfl | rfl | rfl | rfl | rfl | rfl
                      · cases ho
                        have f22 : T.getD 22 undef = .pointer (some ⟨B22, 0, none⟩) := (hT 22 (by decide)).trans (by kernel_rfl)
                        obtain ⟨l0, l1, l2, l3, l4, l5, l6, l7⟩ := blk8c (S21.out.go hb).m.x
                        have g22 := f22
                        rw [Array.getD_eq_getD_getElem?] at g22
                        clear hdep hT
                        go_wp2
                        exact ⟨rfl, _, rfl, Below.refl _ _, rfl⟩
                      · cases ho
                        clear hdep hT
                        go_wp2_with fail
                        refine (number_any _ _).mono ?_
                        rintro e w1 ⟨rfl, hb1⟩
                        go_wp2
                        exact ⟨rfl, _, rfl, hb1, rfl⟩
                      · cases ho
                        obtain ⟨y0, f218⟩ : ∃ y, T.getD 218 undef = y := ⟨_, rfl⟩
                        have hd0 : ph22 W21.heap.size A22 c22 false 0 y0 W := by rw [← f218]; exact hdep 0 (by omega) (by kernel_rfl)
                        obtain ⟨y1, f219⟩ : ∃ y, T.getD 219 undef = y := ⟨_, rfl⟩
                        have hd1 : ph22 W21.heap.size A22 c22 false 1 y1 W := by rw [← f219]; exact hdep 1 (by omega) (by kernel_rfl)
                        obtain rfl : y0 = itV (mapR (.slice A22 2 c22)) := hd0
                        obtain rfl : y1 = .agg #[.int .i64 3, .string d1] := hd1
                        have g218 := f218
                        rw [Array.getD_eq_getD_getElem?] at g218
                        have g219 := f219
                        rw [Array.getD_eq_getD_getElem?] at g219
                        clear hdep hT
                        go_wp2_with fail
                        refine (putT (S21.out.go hb).m.r).mono ?_
                        rintro e w1 ⟨rfl, hb1⟩
                        go_wp2
                        exact ⟨rfl, _, rfl, hb1, z0, rfl, .z0⟩
                      · cases ho
                        obtain ⟨y2, f220⟩ : ∃ y, T.getD 220 undef = y := ⟨_, rfl⟩
                        have hd2 : ph22 W21.heap.size A22 c22 false 2 y2 W := by rw [← f220]; exact hdep 2 (by omega) (by kernel_rfl)
                        obtain ⟨x, rfl, hx⟩ : ∃ x, y2 = .tuple #[itV x, .int .i64 1] ∧ ROk x := hd2
                        have g220 := f220
                        rw [Array.getD_eq_getD_getElem?] at g220
                        clear hdep hT
                        go_wp2
                        exact ⟨rfl, _, rfl, Below.refl _ _, x, rfl, hx⟩
                      · cases ho
                        obtain ⟨y3, f217⟩ : ∃ y, T.getD 217 undef = y := ⟨_, rfl⟩
                        have hd3 : ph22 W21.heap.size A22 c22 false 3 y3 W := by rw [← f217]; exact hdep 3 (by omega) (by kernel_rfl)
                        obtain ⟨x, rfl, hx⟩ : ∃ x, y3 = .tuple #[itV x, .int .i64 1] ∧ ROk x := hd3
                        have g217 := f217
                        rw [Array.getD_eq_getD_getElem?] at g217
                        clear hdep hT
                        go_wp2
                        exact ⟨rfl, _, rfl, Below.refl _ _, x, rfl, hx⟩
                      · cases ho
                        obtain ⟨y3, f217⟩ : ∃ y, T.getD 217 undef = y := ⟨_, rfl⟩
                        have hd3 : ph22 W21.heap.size A22 c22 false 3 y3 W := by rw [← f217]; exact hdep 3 (by omega) (by kernel_rfl)
                        obtain ⟨x, rfl, hx⟩ : ∃ x, y3 = .tuple #[itV x, .int .i64 1] ∧ ROk x := hd3
                        have g217 := f217
                        rw [Array.getD_eq_getD_getElem?] at g217
                        clear hdep hT
                        go_wp2
                        exact ⟨rfl, _, rfl, Below.refl _ _, rfl⟩
                      · cases ho
                        clear hdep hT
                        go_wp2
                        exact ⟨rfl, _, rfl, box1 _ _ _, _, rfl, hp_new rfl, hb.size⟩
                    · intro T hT i o hl hi ho W hb hdep
                      have hi' : i = 5 := by simpa using hl
                      clear hl hi
                      rcases hi' with rfl
                      · cases ho
                        obtain ⟨y3, f217⟩ : ∃ y, T.getD 217 undef = y := ⟨_, rfl⟩
                        have hd3 : ph22 W21.heap.size A22 c22 true 3 y3 W := by rw [← f217]; exact hdep 3 (by omega) (by kernel_rfl)
                        obtain ⟨x, rfl, hx⟩ : ∃ x, y3 = .tuple #[itV x, .int .i64 1] ∧ ROk x := hd3
                        have g217 := f217
                        rw [Array.getD_eq_getD_getElem?] at g217
                        clear hdep hT
                        go_wp2
                        exact ⟨rfl, _, rfl, Below.refl _ _, rfl⟩
                    · intro T hT o ho W hb hdep
                      cases ho
                      obtain ⟨y4, f221⟩ : ∃ y, T.getD 221 undef = y := ⟨_, rfl⟩
                      have hd4 : ph22 W21.heap.size A22 c22 false 4 y4 W := by rw [← f221]; exact hdep 4 (by omega) (by kernel_rfl)
                      obtain ⟨y6, f23⟩ : ∃ y, T.getD 23 undef = y := ⟨_, rfl⟩
                      have hd6 : ph22 W21.heap.size A22 c22 false 6 y6 W := by rw [← f23]; exact hdep 6 (by omega) (by kernel_rfl)
                      obtain ⟨x, rfl, hx⟩ : ∃ x, y4 = itV x ∧ ROk x := hd4
                      obtain ⟨Bx, rfl, hzx, hlx⟩ : NewB W21.heap.size y6 W := hd6
                      refine wpList_putB rfl (.tmp 23) (.tmp 221) rfl rfl Bx x f23 f221 hzx hx ?_
                      refine ⟨rfl, rfl, putB_below hb hlx, fun j' hj' h => ?_⟩
                      match j', hj', h with
                      | 0, _, h => exact h
                      | 1, _, h => exact h
                      | 2, _, h => exact h
                      | 3, _, h => exact h
                      | 4, _, h => exact h
                      | 5, _, h => exact h
                      | 6, _, h => exact trivial
                    · intro ys W hys hb hall
                      obtain ⟨y0, y1, y2, y3, y4, y5, y6, rfl⟩ := list7 hys
                      simp only [setM, List.setIfInBounds_toArray, List.set_cons_zero, List.set_cons_succ]
                      obtain rfl : y5 = .int .i64 1 := hall 5 (by omega)
                      clear hall
                      simp only [List.drop_succ_cons, List.drop_zero]
                      have S22 := Lib.hid (S21.out.go hb)
                      clear hb S21
                      generalize W = W22 at *
                      go_wp2_with fail
                      refine (twoK _).mono ?_
                      rintro e V1 ⟨⟨u, Y1, Y2, rfl, hr, h1, h2, h3⟩, hb1⟩
                      obtain ⟨Au, cu, eu, _⟩ := RdP.form hr
                      obtain rfl : u = .slice Au 2 cu := eu
                      have S23 := Lib.hid (S22.out.go hb1)
                      have HR1 := Lib.hid hr
                      clear h1 h2 h3 hb1 hr S22
                      simp only [itV, mapR]
                      go_wp2_with fail
                      refine (put01 HR1.out).mono ?_
                      rintro e V2 ⟨rfl, hb2⟩
                      have S24 := Lib.hid (S23.out.go hb2)
                      clear hb2 S23 HR1
                      obtain ⟨l0, l1, l2, l3, l4, l5, l6, l7⟩ := blk8c S24.out.m.x
                      obtain ⟨n0, n1⟩ := blk2c S24.out.a1
                      have hl1 : B22 < V2.heap.size := lt_of_block S24.out.m.x
                      have hl2 : B1 < V2.heap.size := lt_of_block S24.out.a1
                      simp only [itV, z0]
                      go_wp2_with fail
                      have hb4 := box1 V2 30 #[.int .i64 0, .int .i64 0, .string { data := #[] }, .int .i64 0, .int .i64 0, .slice none 0 0, .slice none 0 0, .pointer none]
                      refine (getT (RdRows.below S24.out.m.r hb4)).mono ?_
                      rintro e V3 ⟨rfl, hb5⟩
                      have hb45 := hb4.trans (hb5.mono hb4.size)
                      have HB5 := Lib.hid ((S24.out.go hb45).b)
                      obtain ⟨p0, p1, p2, p3, p4, p5, p6, p7⟩ := blk8c (S24.out.go hb45).x20
                      clear hb4 hb5 hb45 S24 l0 l1 l2 l3 l4 l5 l6 l7 n0 n1 hl1 hl2
                      simp only [mapR] at p0 p1 p2 p3 p4 p5 p6 p7
                      go_upto_region 27 with fail
                      clear p0 p1 p2 p3 p4 p5 p6 p7
                      go_wp2_with fail
                      refine (txt_tx _ _).mono ?_
                      rintro e V4 ⟨⟨Z1, rfl, hZ1, _⟩, hb1⟩
                      have HB6 := Lib.hid (HB5.out.trans (hb1.mono HB5.out.size))
                      have HZ1 := Lib.hid hZ1
                      clear hb1 hZ1 HB5
                      simp only [sl1]
                      go_wp2_with fail
                      refine (txt_tx _ _).mono ?_
                      rintro e V5 ⟨⟨Z2, rfl, hZ2, _⟩, hb1⟩
                      have HB7 := Lib.hid (HB6.out.trans (hb1.mono HB6.out.size))
                      have HZ1' := Lib.hid (HZ1.out.go hb1)
                      have HZ2 := Lib.hid hZ2
                      clear hb1 hZ2 HB6 HZ1
                      simp only [sl1]
                      go_upto_region 28 with fail
                      have hm6 := litm_two (W := V5) (x := sl1 Z1) (y := sl1 Z2)
                      have hb6 := box1 V5 22 #[.slice (some ⟨Z1, 0, none⟩) 1 1, .slice (some ⟨Z2, 0, none⟩) 1 1]
                      obtain ⟨V6, hV6⟩ : ∃ V6, V5.alloc (.cells #[.slice (some ⟨Z1, 0, none⟩) 1 1, .slice (some ⟨Z2, 0, none⟩) 1 1] 22) = V6 := ⟨_, rfl⟩
                      have hm6' : RdM V6 (aL Z1 Z2) (.slice (some ⟨V5.heap.size, 0, none⟩) 2 2) := by rw [← hV6]; exact hm6
                      have hz6 : V6.heap.size = V5.heap.size + 1 := by rw [← hV6]; simp
                      rw [hV6] at hb6 ⊢
                      clear hm6 hV6
                      obtain ⟨V7, hV7⟩ : ∃ V7, V6.alloc (.cells #[.int .i64 3, .int .i64 0, .string { data := #[] }, .int .i64 0, .int .i64 0, .slice none 0 0, .slice (some ⟨V5.heap.size, 0, none⟩) 2 2, .pointer none] 30) = V7 := ⟨_, rfl⟩
                      have hb7 : Below V6.heap.size V6 V7 := hV7 ▸ box1 _ _ _
                      have hx7 : BI V7 (V5.heap.size + 1) (aR (.slice (some ⟨V5.heap.size, 0, none⟩) 2 2)) := by rw [← hV7]; exact hp_new hz6
                      have hb67 : Below V5.heap.size V5 V7 := hb6.trans (hb7.mono (by omega))
                      rw [hV7]
                      have S27 := Lib.hid (show K27 w V7 (V5.heap.size + 1) V5.heap.size Z1 Z2 from ⟨HB7.out.trans (hb67.mono HB7.out.size), hx7, RdRows.below hm6' hb7, HZ1'.out.go hb67, HZ2.out.go hb67⟩)
                      clear hm6' hz6 hb6 hV7 hb7 hx7 hb67 HB7 HZ1' HZ2
                      generalize V5.heap.size + 1 = B29 at *
                      generalize V5.heap.size = Q at *
                      obtain ⟨l0, l1, l2, l3, l4, l5, l6, l7⟩ := blk8c S27.out.x
                      go_wp2_with fail
                      refine (atA S27.out.m).mono ?_
                      rintro e W28 ⟨rfl, hb1⟩
                      have S28 := Lib.hid (S27.out.go hb1)
                      clear hb1 S27 l0 l1 l2 l3 l4 l5 l6 l7
                      go_wp2_with fail
                      refine wp_region_drawnF2 (by kernel_rfl) 7 374 [281, 282, 283, 280, 284, 285, 32] [5] (ph29 W28.heap.size Q) rfl (by kernel_rfl) (ph29m _ _) ?_ ?_ ?_ ?_
                      · intro T hT i o hi ho W hb hdep
                        have hi' : i = 0 ∨ i = 1 ∨ i = 2 ∨ i = 3 ∨ i = 4 ∨ i = 5 ∨ i = 6 := by omega
                        clear hi
                        rcases hi' with rfl | rfl | rfl | rfl | rfl | rfl | rfl
                        · cases ho
                          have f29 : T.getD 29 undef = .pointer (some ⟨B29, 0, none⟩) := (hT 29 (by decide)).trans (by kernel_rfl)
                          obtain ⟨l0, l1, l2, l3, l4, l5, l6, l7⟩ := blk8c (S28.out.go hb).x
                          have g29 := f29
                          rw [Array.getD_eq_getD_getElem?] at g29
                          clear hdep hT
                          go_wp2
                          exact ⟨rfl, _, rfl, Below.refl _ _, rfl⟩
                        · cases ho
                          clear hdep hT
                          go_wp2_with fail
                          refine (txt_tx _ _).mono ?_
                          rintro e w1 ⟨⟨X, rfl, hX, _⟩, hb1⟩
                          go_wp2
                          exact ⟨rfl, _, rfl, hb1, X, rfl, hX⟩
                        · cases ho
                          obtain ⟨y0, f281⟩ : ∃ y, T.getD 281 undef = y := ⟨_, rfl⟩
                          have hd0 : ph29 W28.heap.size Q false 0 y0 W := by rw [← f281]; exact hdep 0 (by omega) (by kernel_rfl)
                          obtain ⟨y1, f282⟩ : ∃ y, T.getD 282 undef = y := ⟨_, rfl⟩
                          have hd1 : ph29 W28.heap.size Q false 1 y1 W := by rw [← f282]; exact hdep 1 (by omega) (by kernel_rfl)
                          obtain rfl : y0 = itV (aR (.slice (some ⟨Q, 0, none⟩) 2 2)) := hd0
                          obtain ⟨X, rfl, hX⟩ : ∃ X, y1 = sl1 X ∧ TX W X s7_ := hd1
                          have g281 := f281
                          rw [Array.getD_eq_getD_getElem?] at g281
                          have g282 := f282
                          rw [Array.getD_eq_getD_getElem?] at g282
                          clear hdep hT
                          go_wp2_with fail
                          refine (insA (S28.out.go hb).m (S28.out.go hb).t1 (S28.out.go hb).t2 hX (by decide +kernel) (by decide +kernel) (by decide +kernel)).mono ?_
                          rintro e w1 ⟨⟨A, c, rfl⟩, hb1⟩
                          go_wp2
                          exact ⟨rfl, _, rfl, hb1, A, c, rfl⟩
                        · cases ho
                          obtain ⟨y2, f283⟩ : ∃ y, T.getD 283 undef = y := ⟨_, rfl⟩
                          have hd2 : ph29 W28.heap.size Q false 2 y2 W := by rw [← f283]; exact hdep 2 (by omega) (by kernel_rfl)
                          obtain ⟨A, c, rfl⟩ : ∃ A c, y2 = .tuple #[itV (aR (.slice A 3 c)), .int .i64 0] := hd2
                          have g283 := f283
                          rw [Array.getD_eq_getD_getElem?] at g283
                          clear hdep hT
                          go_wp2
                          exact ⟨rfl, _, rfl, Below.refl _ _, A, c, rfl⟩
                        · cases ho
                          obtain ⟨y3, f280⟩ : ∃ y, T.getD 280 undef = y := ⟨_, rfl⟩
                          have hd3 : ph29 W28.heap.size Q false 3 y3 W := by rw [← f280]; exact hdep 3 (by omega) (by kernel_rfl)
                          obtain ⟨A, c, rfl⟩ : ∃ A c, y3 = .tuple #[itV (aR (.slice A 3 c)), .int .i64 0] := hd3
                          have g280 := f280
                          rw [Array.getD_eq_getD_getElem?] at g280
                          clear hdep hT
                          go_wp2
                          exact ⟨rfl, _, rfl, Below.refl _ _, A, c, rfl⟩
                        · cases ho
                          obtain ⟨y3, f280⟩ : ∃ y, T.getD 280 undef = y := ⟨_, rfl⟩
                          have hd3 : ph29 W28.heap.size Q false 3 y3 W := by rw [← f280]; exact hdep 3 (by omega) (by kernel_rfl)
                          obtain ⟨A, c, rfl⟩ : ∃ A c, y3 = .tuple #[itV (aR (.slice A 3 c)), .int .i64 0] := hd3
                          have g280 := f280
                          rw [Array.getD_eq_getD_getElem?] at g280
                          clear hdep hT
                          go_wp2
                          exact ⟨rfl, _, rfl, Below.refl _ _, rfl⟩
                        · cases ho
                          clear hdep hT
                          go_wp2
                          exact ⟨rfl, _, rfl, box1 _ _ _, _, rfl, hp_new rfl, hb.size⟩
                      · intro T hT i o hl hi ho W hb hdep
                        have hi' : i = 5 := by simpa using hl
                        clear hl hi
                        rcases hi' with rfl
                        · cases ho
                          obtain ⟨y3, f280⟩ : ∃ y, T.getD 280 undef = y := ⟨_, rfl⟩
                          have hd3 : ph29 W28.heap.size Q true 3 y3 W := by rw [← f280]; exact hdep 3 (by omega) (by kernel_rfl)
                          obtain ⟨A, c, rfl⟩ : ∃ A c, y3 = .tuple #[itV (aR (.slice A 3 c)), .int .i64 0] := hd3
                          have g280 := f280
                          rw [Array.getD_eq_getD_getElem?] at g280
                          clear hdep hT
                          go_wp2
                          exact ⟨rfl, _, rfl, Below.refl _ _, rfl⟩
                      · intro T hT o ho W hb hdep
                        cases ho
                        obtain ⟨y4, f284⟩ : ∃ y, T.getD 284 undef = y := ⟨_, rfl⟩
                        have hd4 : ph29 W28.heap.size Q false 4 y4 W := by rw [← f284]; exact hdep 4 (by omega) (by kernel_rfl)
                        obtain ⟨y6, f32⟩ : ∃ y, T.getD 32 undef = y := ⟨_, rfl⟩
                        have hd6 : ph29 W28.heap.size Q false 6 y6 W := by rw [← f32]; exact hdep 6 (by omega) (by kernel_rfl)
                        obtain ⟨A, c, rfl⟩ : ∃ A c, y4 = itV (aR (.slice A 3 c)) := hd4
                        obtain ⟨Bx, rfl, hzx, hlx⟩ : NewB W28.heap.size y6 W := hd6
                        refine wpList_putB rfl (.tmp 32) (.tmp 284) rfl rfl Bx (aR (.slice A 3 c)) f32 f284 hzx ⟨rfl, rfl, rfl⟩ ?_
                        refine ⟨rfl, rfl, putB_below hb hlx, fun j' hj' h => ?_⟩
                        match j', hj', h with
                        | 0, _, h => exact h
                        | 1, _, h => exact trivial
                        | 2, _, h => exact h
                        | 3, _, h => exact h
                        | 4, _, h => exact h
                        | 5, _, h => exact h
                        | 6, _, h => exact (show ph29 W28.heap.size Q true 6 (T.getD 32 undef) _ from by rw [f32]; exact ⟨_, _, _, rfl, putB_bi hzx⟩)
                      · intro ys W hys hb hall
                        obtain ⟨y0, y1, y2, y3, y4, y5, y6, rfl⟩ := list7 hys
                        simp only [setM, List.setIfInBounds_toArray, List.set_cons_zero, List.set_cons_succ]
                        obtain rfl : y5 = .int .i64 0 := hall 5 (by omega)
                        obtain ⟨B32, A32, c32, rfl, hx32⟩ : ∃ b A c, y6 = .pointer (some ⟨b, 0, none⟩) ∧ BI W b (aR (.slice A 3 c)) := hall 6 (by omega)
                        clear hall
                        simp only [List.drop_succ_cons, List.drop_zero]
                        have S29 := Lib.hid (And.intro (S28.out.go hb) hx32)
                        clear hb S28 hx32
                        generalize W = W29 at *
                        obtain ⟨l0, l1, l2, l3, l4, l5, l6, l7⟩ := blk8c S29.out.1.x
                        go_wp2_with fail
                        refine (insA4 S29.out.1.m 4 ⟨by omega, by omega⟩ (by decide)).mono ?_
                        rintro e V1 ⟨rfl, hb1⟩
                        have S30 := Lib.hid (And.intro (S29.out.1.go hb1) (S29.out.2.go hb1))
                        clear hb1 S29
                        clear l0 l1 l2 l3 l4 l5 l6 l7
                        obtain ⟨l0, l1, l2, l3, l4, l5, l6, l7⟩ := blk8c S30.out.1.x
                        have hl1 : B29 < V1.heap.size := lt_of_block S30.out.1.x
                        simp only [itV, z0]
                        go_wp2_with fail
                        have hb2 := box1 V1 30 #[.int .i64 0, .int .i64 0, .string { data := #[] }, .int .i64 0, .int .i64 0, .slice none 0 0, .slice none 0 0, .pointer none]
                        refine (delA (RdRows.below S30.out.1.m hb2)).mono ?_
                        rintro e V2 ⟨⟨v36, rfl, hv36⟩, hb3⟩
                        have hb23 := hb2.trans (hb3.mono hb2.size)
                        have S31 := Lib.hid (And.intro (S30.out.1.go hb23) (S30.out.2.go hb23))
                        clear hb2 hb3 hb23 S30 hl1
                        clear l0 l1 l2 l3 l4 l5 l6 l7
                        obtain ⟨A36, c36, rfl, _⟩ := RdM.form hv36
                        rw [show ([sl1 Z2] : List Value).length = 1 from rfl] at hv36 ⊢
                        have HV36 := Lib.hid hv36
                        clear hv36
                        obtain ⟨l0, l1, l2, l3, l4, l5, l6, l7⟩ := blk8c S31.out.1.x
                        have hl1 : B29 < V2.heap.size := lt_of_block S31.out.1.x
                        simp only [itV, aR]
                        go_wp2_with fail
                        obtain ⟨V3, hV3⟩ : ∃ V3, V2.alloc (.cells #[.int .i64 3, .int .i64 0, .string { data := #[] }, .int .i64 0, .int .i64 0, .slice none 0 0, .slice A36 1 c36, .pointer none] 30) = V3 := ⟨_, rfl⟩
                        have hb2 : Below V2.heap.size V2 V3 := hV3 ▸ box1 _ _ _
                        have S32 := Lib.hid (And.intro (S31.out.1.go hb2) (And.intro (S31.out.2.go hb2) (And.intro (show BI V3 V2.heap.size (aR (.slice A36 1 c36)) from hV3 ▸ hp_new rfl) (show RdM V3 [sl1 Z2] (.slice A36 1 c36) from RdRows.below HV36.out hb2))))
                        rw [hV3]
                        clear hV3 hb2 S31 HV36 hl1
                        clear l0 l1 l2 l3 l4 l5 l6 l7
                        generalize V2.heap.size = B36 at *
                        refine (delA0 S32.out.1.m).mono ?_
                        rintro e V4 ⟨rfl, hb3⟩
                        have S33 := Lib.hid (And.intro (S32.out.1.go hb3) (And.intro (S32.out.2.1.go hb3) (And.intro (S32.out.2.2.1.go hb3) (RdRows.below S32.out.2.2.2 hb3 : RdM V4 [sl1 Z2] (.slice A36 1 c36)))))
                        clear hb3 S32
                        simp only [itV, z0]
                        go_wp2_with fail
                        have hb4 := box1 V4 30 #[.int .i64 0, .int .i64 0, .string { data := #[] }, .int .i64 0, .int .i64 0, .slice none 0 0, .slice none 0 0, .pointer none]
                        refine (twoK _).mono ?_
                        rintro e V5 ⟨⟨u, Y1, Y2, rfl, hr, h1, h2, h3⟩, hb5⟩
                        obtain ⟨Au, cu, eu, _⟩ := RdP.form hr
                        obtain rfl : u = .slice Au 2 cu := eu
                        have hb45 := hb4.trans (hb5.mono hb4.size)
                        have S34 := Lib.hid (And.intro (S33.out.1.go hb45) (And.intro (S33.out.2.1.go hb45) (And.intro (S33.out.2.2.1.go hb45) (RdRows.below S33.out.2.2.2 hb45 : RdM V5 [sl1 Z2] (.slice A36 1 c36)))))
                        have HR1 := Lib.hid hr
                        clear hb4 hb5 hb45 S33 h1 h2 h3 hr
                        simp only [itV, mapR]
                        go_wp2_with fail
                        refine (atM HR1.out).mono ?_
                        rintro e W33 ⟨rfl, hb6⟩
                        have S35 := Lib.hid (And.intro (S34.out.1.go hb6) (And.intro (S34.out.2.1.go hb6) (And.intro (S34.out.2.2.1.go hb6) (RdRows.below S34.out.2.2.2 hb6 : RdM W33 [sl1 Z2] (.slice A36 1 c36)))))
                        clear hb6 S34 HR1
                        go_wp2_with fail
                        refine wp_region_drawnF2 (by kernel_rfl) 8 374 [307, 308, 309, 310, 306, 311, 312, 42] [6] (ph34 W33.heap.size Q) rfl (by kernel_rfl) (ph34m _ _) ?_ ?_ ?_ ?_
                        · intro T hT i o hi ho W hb hdep
                          have hi' : i = 0 ∨ i = 1 ∨ i = 2 ∨ i = 3 ∨ i = 4 ∨ i = 5 ∨ i = 6 ∨ i = 7 := by omega
                          clear hi
                          rcases hi' with rfl | rfl | rfl | rfl | rfl | rfl | rfl | rfl
                          · cases ho
                            have f29 : T.getD 29 undef = .pointer (some ⟨B29, 0, none⟩) := (hT 29 (by decide)).trans (by kernel_rfl)
                            obtain ⟨l0, l1, l2, l3, l4, l5, l6, l7⟩ := blk8c (S35.out.1.go hb).x
                            have g29 := f29
                            rw [Array.getD_eq_getD_getElem?] at g29
                            clear hdep hT
                            go_wp2
                            exact ⟨rfl, _, rfl, Below.refl _ _, rfl⟩
                          · cases ho
                            clear hdep hT
                            go_wp2_with fail
                            refine (twoK _).mono ?_
                            rintro e w1 ⟨⟨u, Y1, Y2, rfl, hr, h1, h2, h3⟩, hb1⟩
                            go_wp2
                            exact ⟨rfl, _, rfl, hb1, u, Y1, Y2, rfl, hr, h1, h2, Nat.le_trans hb.size h3⟩
                          · cases ho
                            obtain ⟨y0, f307⟩ : ∃ y, T.getD 307 undef = y := ⟨_, rfl⟩
                            have hd0 : ph34 W33.heap.size Q false 0 y0 W := by rw [← f307]; exact hdep 0 (by omega) (by kernel_rfl)
                            obtain ⟨y1, f308⟩ : ∃ y, T.getD 308 undef = y := ⟨_, rfl⟩
                            have hd1 : ph34 W33.heap.size Q false 1 y1 W := by rw [← f308]; exact hdep 1 (by omega) (by kernel_rfl)
                            obtain rfl : y0 = itV (aR (.slice (some ⟨Q, 0, none⟩) 2 2)) := hd0
                            obtain ⟨u, Y1, Y2, rfl, hr, h1, h2, h3⟩ : ∃ u Y1 Y2, y1 = itV (mapR u) ∧ RdP W (mapL Y1 Y2) u ∧ TX W Y1 sa ∧ TX W Y2 sb ∧ W33.heap.size ≤ Y2 := hd1
                            obtain ⟨Au, cu, eu, _⟩ := RdP.form hr
                            obtain rfl : u = .slice Au 2 cu := eu
                            try simp only [itV, mapR, aR] at f307
                            try simp only [itV, mapR, aR] at f308
                            have g307 := f307
                            rw [Array.getD_eq_getD_getElem?] at g307
                            have g308 := f308
                            rw [Array.getD_eq_getD_getElem?] at g308
                            clear hdep hT
                            go_wp2
                            exact ⟨rfl, _, rfl, box1 _ _ _, .slice Au 2 cu, Y1, Y2, lite_two (x := aR (.slice (some ⟨Q, 0, none⟩) 2 2)) (y := mapR (.slice Au 2 cu)), RdRows.below hr (box1 _ _ _)⟩
                          · cases ho
                            obtain ⟨y2, f309⟩ : ∃ y, T.getD 309 undef = y := ⟨_, rfl⟩
                            have hd2 : ph34 W33.heap.size Q false 2 y2 W := by rw [← f309]; exact hdep 2 (by omega) (by kernel_rfl)
                            obtain ⟨u, Y1, Y2, hv, hr⟩ : ∃ u Y1 Y2, RdI W [aR (.slice (some ⟨Q, 0, none⟩) 2 2), mapR u] y2 ∧ RdP W (mapL Y1 Y2) u := hd2
                            have g309 := f309
                            rw [Array.getD_eq_getD_getElem?] at g309
                            clear hdep hT
                            go_wp2_with fail
                            refine (joinK hv (S35.out.1.go hb).m (.inr ⟨Y1, Y2, hr⟩)).mono ?_
                            rintro e w1 ⟨rfl, hb1⟩
                            go_wp2
                            exact ⟨rfl, _, rfl, hb1, z0, rfl, .z0⟩
                          · cases ho
                            obtain ⟨y3, f310⟩ : ∃ y, T.getD 310 undef = y := ⟨_, rfl⟩
                            have hd3 : ph34 W33.heap.size Q false 3 y3 W := by rw [← f310]; exact hdep 3 (by omega) (by kernel_rfl)
                            obtain ⟨x, rfl, hx⟩ : ∃ x, y3 = .tuple #[itV x, .int .i64 1] ∧ ROk x := hd3
                            have g310 := f310
                            rw [Array.getD_eq_getD_getElem?] at g310
                            clear hdep hT
                            go_wp2
                            exact ⟨rfl, _, rfl, Below.refl _ _, x, rfl, hx⟩
                          · cases ho
                            obtain ⟨y4, f306⟩ : ∃ y, T.getD 306 undef = y := ⟨_, rfl⟩
                            have hd4 : ph34 W33.heap.size Q false 4 y4 W := by rw [← f306]; exact hdep 4 (by omega) (by kernel_rfl)
                            obtain ⟨x, rfl, hx⟩ : ∃ x, y4 = .tuple #[itV x, .int .i64 1] ∧ ROk x := hd4
                            have g306 := f306
                            rw [Array.getD_eq_getD_getElem?] at g306
                            clear hdep hT
                            go_wp2
                            exact ⟨rfl, _, rfl, Below.refl _ _, x, rfl, hx⟩
                          · cases ho
                            obtain ⟨y4, f306⟩ : ∃ y, T.getD 306 undef = y := ⟨_, rfl⟩
                            have hd4 : ph34 W33.heap.size Q false 4 y4 W := by rw [← f306]; exact hdep 4 (by omega) (by kernel_rfl)
                            obtain ⟨x, rfl, hx⟩ : ∃ x, y4 = .tuple #[itV x, .int .i64 1] ∧ ROk x := hd4
                            have g306 := f306
                            rw [Array.getD_eq_getD_getElem?] at g306
                            clear hdep hT
                            go_wp2
                            exact ⟨rfl, _, rfl, Below.refl _ _, rfl⟩
                          · cases ho
                            clear hdep hT
                            go_wp2
                            exact ⟨rfl, _, rfl, box1 _ _ _, _, rfl, hp_new rfl, hb.size⟩
                        · intro T hT i o hl hi ho W hb hdep
                          have hi' : i = 6 := by simpa using hl
                          clear hl hi
                          rcases hi' with rfl
                          · cases ho
                            obtain ⟨y4, f306⟩ : ∃ y, T.getD 306 undef = y := ⟨_, rfl⟩
                            have hd4 : ph34 W33.heap.size Q true 4 y4 W := by rw [← f306]; exact hdep 4 (by omega) (by kernel_rfl)
                            obtain ⟨x, rfl, hx⟩ : ∃ x, y4 = .tuple #[itV x, .int .i64 1] ∧ ROk x := hd4
                            have g306 := f306
                            rw [Array.getD_eq_getD_getElem?] at g306
                            clear hdep hT
                            go_wp2
                            exact ⟨rfl, _, rfl, Below.refl _ _, rfl⟩
                        · intro T hT o ho W hb hdep
                          cases ho
                          obtain ⟨y5, f311⟩ : ∃ y, T.getD 311 undef = y := ⟨_, rfl⟩
                          have hd5 : ph34 W33.heap.size Q false 5 y5 W := by rw [← f311]; exact hdep 5 (by omega) (by kernel_rfl)
                          obtain ⟨y7, f42⟩ : ∃ y, T.getD 42 undef = y := ⟨_, rfl⟩
                          have hd7 : ph34 W33.heap.size Q false 7 y7 W := by rw [← f42]; exact hdep 7 (by omega) (by kernel_rfl)
                          obtain ⟨x, rfl, hx⟩ : ∃ x, y5 = itV x ∧ ROk x := hd5
                          obtain ⟨Bx, rfl, hzx, hlx⟩ : NewB W33.heap.size y7 W := hd7
                          refine wpList_putB rfl (.tmp 42) (.tmp 311) rfl rfl Bx x f42 f311 hzx hx ?_
                          refine ⟨rfl, rfl, putB_below hb hlx, fun j' hj' h => ?_⟩
                          match j', hj', h with
                          | 0, _, h => exact h
                          | 1, _, h => exact trivial
                          | 2, _, h => exact trivial
                          | 3, _, h => exact h
                          | 4, _, h => exact h
                          | 5, _, h => exact h
                          | 6, _, h => exact h
                          | 7, _, h => exact trivial
                        · intro ys W hys hb hall
                          obtain ⟨y0, y1, y2, y3, y4, y5, y6, y7, rfl⟩ := list8 hys
                          simp only [setM, List.setIfInBounds_toArray, List.set_cons_zero, List.set_cons_succ]
                          obtain rfl : y6 = .int .i64 1 := hall 6 (by omega)
                          clear hall
                          simp only [List.drop_succ_cons, List.drop_zero]
                          have S36 := Lib.hid (And.intro (S35.out.1.go hb) (And.intro (S35.out.2.1.go hb) (And.intro (S35.out.2.2.1.go hb) (RdRows.below S35.out.2.2.2 hb : RdM W [sl1 Z2] (.slice A36 1 c36)))))
                          clear hb S35
                          generalize W = W34 at *
                          obtain ⟨l0, l1, l2, l3, l4, l5, l6, l7⟩ := blk8c S36.out.1.x
                          go_wp2_with fail
                          refine (insA4 S36.out.1.m (-9223372036854775808) ⟨by omega, by omega⟩ (by decide)).mono ?_
                          rintro e V1 ⟨rfl, hb⟩
                          have S37 := Lib.hid (And.intro (S36.out.1.go hb) (And.intro (S36.out.2.1.go hb) (And.intro (S36.out.2.2.1.go hb) (RdRows.below S36.out.2.2.2 hb : RdM V1 [sl1 Z2] (.slice A36 1 c36)))))
                          clear hb S36
                          clear l0 l1 l2 l3 l4 l5 l6 l7
                          obtain ⟨p0, p1, p2, p3, p4, p5, p6, p7⟩ := blk8c S37.out.2.1
                          obtain ⟨r0, r1, r2, r3, r4, r5, r6, r7⟩ := blk8c S37.out.2.2.1
                          obtain ⟨bI, oI, vI, e36, hbI, hget, _, hc0⟩ := RdM.row S37.out.2.2.2 (Below.refl _ _) (k := 0) (by simp)
                          obtain rfl : A36 = some ⟨bI, oI, none⟩ := e36
                          obtain rfl : sl1 Z2 = vI := Option.some.inj hget
                          have hc2 : V1.cell? ⟨Z2, 2, none⟩ = some (.string { data := #[54] }) := S37.out.1.t2.1.2.2.1
                          have hl1 := lt_of_block S37.out.2.1
                          have hl2 := lt_of_block S37.out.2.2.1
                          have hl3 := S37.out.1.t2.2
                          have HB38 := Lib.hid (S37.out.1.b.trans ((box1 V1 30 #[.int .i64 0, .int .i64 0, .string { data := #[] }, .int .i64 0, .int .i64 0, .slice none 0 0, .slice none 0 0, .pointer none]).mono S37.out.1.b.size))
                          clear S37 hget
                          simp only [sl1, Nat.add_zero] at hc0
                          simp only [aR] at p0 p1 p2 p3 p4 p5 p6 p7 r0 r1 r2 r3 r4 r5 r6 r7
                          simp only [itV, z0]
                          go_wp2_with fail
                          refine (works_any _).mono ?_
                          rintro e V2 ⟨rfl, hb1⟩
                          have HB39 := Lib.hid (HB38.out.trans (hb1.mono HB38.out.size))
                          clear hb1
                          go_wp2
                          go_ret
                          exact ⟨rB rfl, HB39.out⟩
end Go.Proofs.YtahidclhplmkiaaGreatDoor
