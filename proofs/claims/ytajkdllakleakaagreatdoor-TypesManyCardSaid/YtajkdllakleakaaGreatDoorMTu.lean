/- Chapter 16: (*types.user).can at the nodes of the example (printed by gen_can.py). -/
import Derived.Maps.Own
import Derived.Test.YtajkdllakleakaaGreatDoorMTe
namespace Go.Proofs.YtajkdllakleakaaGreatDoor
open Go.RowKit Go.WideMaps
set_option linter.unusedVariables false
set_option linter.unusedSimpArgs false

noncomputable def gE : Value → Option (DataW Unit × List MemPlace) := plainElem Tryz.prog 3
theorem gE_int (a : Int) (h : (Lit.int .i64 a).wf = true) : gE (.int .i64 a) = some (.lit (.int .i64 a), []) := plainElem_int Tryz.underlying3 h
def mD0 : DataW Unit := .map []
def mD1 : DataW Unit := mD0.put (.int .i64 0) (.lit (.int .i64 (-1)))
def mD2 : DataW Unit := mD1.put (.int .i64 0) (.lit (.int .i64 1))
theorem mD0_at : mD0.atKey (.int .i64 0) (.lit (.int .i64 0)) = .lit (.int .i64 0) := by kernel_rfl
theorem mD1_at : mD1.atKey (.int .i64 0) (.lit (.int .i64 0)) = .lit (.int .i64 (-1)) := by kernel_rfl
theorem mD2_at : mD2.atKey (.int .i64 0) (.lit (.int .i64 0)) = .lit (.int .i64 1) := by kernel_rfl
/-- A user of items. -/
structure Us (W : World) (U M n : Nat) (tv : Value) (D : DataW Unit) : Prop where
  u : W.heap[U]? = some (.cells #[tv, .map (some M)] 49 (0, 0))
  m : W.ownsMap Tryz.prog 3 gE M n D
theorem map_ne {W : World} {M n k : Nat} {D : DataW Unit} {cs : Array Value} {t : TypeId} {fz : Nat × Nat} (h : W.ownsMap Tryz.prog 3 gE M n D) (hk : W.heap[k]? = some (.cells cs t fz)) : k ≠ M := fun e => by
  obtain ⟨es, clock, hb, _⟩ := h
  subst e
  rw [hk] at hb
  cases hb
theorem own_kept {W W' : World} {M n : Nat} {D : DataW Unit} (h : W.ownsMap Tryz.prog 3 gE M n D) (hb : Below W.heap.size W W') : W'.ownsMap Tryz.prog 3 gE M n D := by
  have hlt := h.lt
  obtain ⟨es, clock, h1, h2⟩ := h
  exact ⟨es, clock, (hb.block M hlt).trans h1, h2⟩
theorem Us.go {W W' : World} {U M n : Nat} {tv : Value} {D : DataW Unit} (h : Us W U M n tv D) (hb : Below W.heap.size W W') : Us W' U M n tv D := ⟨(hb.block U (lt_heap h.u)).trans h.u, own_kept h.m hb⟩
theorem Us.look {W : World} {U M n : Nat} {tv : Value} {D : DataW Unit} {c : Int} (h : Us W U M n tv D) (hc : D.atKey (.int .i64 0) (.lit (.int .i64 0)) = .lit (.int .i64 c)) : (Instr.lookup 47 (.map (some M)) (.int .i64 0) false).run Tryz.prog W = .ok (.int .i64 c) W := by
  obtain ⟨c', hrun, hat, _⟩ := World.ownsMap.lookup_int (t := 47) h.m (Maps.int_keyed Tryz.underlying3) Tryz.underlying47 Tryz.underlying3 (Tryz.zeroValue3 W) (key := .int .i64 0) (kl := .int .i64 0) (by kernel_rfl)
  rw [hc] at hat
  cases hat
  exact hrun
/-- The state of can: the boxes of the call, the user, the trees. -/
structure CanS (w W : World) (Bu Bx U M X Y n : Nat) (x : Int) (D : DataW Unit) : Prop where
  g : GrB w W (fun k => k = M)
  bu : W.heap[Bu]? = some (.cells #[.pointer (some ⟨U, 0, none⟩)] 46 (0, 0))
  bx : W.heap[Bx]? = some (.cells #[.int .i64 1, .int .i64 0, .string eS, .int .i64 0, .int .i64 x, .slice none 0 0, .slice none 0 0, .pointer none] 29 (0, 0))
  us : Us W U M n (trV X) D
  tr : Tr W X Y
theorem CanS.go {w W W' : World} {Bu Bx U M X Y n : Nat} {x : Int} {D : DataW Unit} (h : CanS w W Bu Bx U M X Y n x D) (hb : Below W.heap.size W W') : CanS w W' Bu Bx U M X Y n x D :=
  ⟨h.g.trans (GrB.of_below hb), (hb.block _ (lt_heap h.bu)).trans h.bu, (hb.block _ (lt_heap h.bx)).trans h.bx, h.us.go hb, h.tr.below hb⟩
theorem CanS.put {w W W' : World} {Bu Bx U M X Y n n' : Nat} {x : Int} {D D' : DataW Unit} (h : CanS w W Bu Bx U M X Y n x D) (hm : W'.ownsMap Tryz.prog 3 gE M n' D') (hg : W.grownBy W' (some M)) : CanS w W' Bu Bx U M X Y n' x D' := by
  have k : ∀ {k : Nat} {cs : Array Value} {t : TypeId} {fz : Nat × Nat}, W.heap[k]? = some (.cells cs t fz) → W'.heap[k]? = some (.cells cs t fz) := fun hk => (hg.block _ (lt_heap hk) (fun e => map_ne h.us.m hk (by cases e; rfl))).trans hk
  exact ⟨h.g.trans (GrB.of_grown hg (fun k e => by cases e; rfl)), k h.bu, k h.bx, ⟨k h.us.u, hm⟩, ⟨k h.tr.x, k h.tr.y⟩⟩
theorem CanS.cu {w W : World} {Bu Bx U M X Y n : Nat} {x : Int} {D : DataW Unit} (h : CanS w W Bu Bx U M X Y n x D) : W.cell? ⟨Bu, 0, none⟩ = some (.pointer (some ⟨U, 0, none⟩)) := cell_of_row W Bu 0 _ _ _ h.bu
theorem CanS.u0 {w W : World} {Bu Bx U M X Y n : Nat} {x : Int} {D : DataW Unit} (h : CanS w W Bu Bx U M X Y n x D) : W.cell? ⟨U, 0, none⟩ = some (.slice (some ⟨X, 0, none⟩) 1 1) := cell_of_row W U 0 _ _ _ h.us.u
theorem CanS.u1 {w W : World} {Bu Bx U M X Y n : Nat} {x : Int} {D : DataW Unit} (h : CanS w W Bu Bx U M X Y n x D) : W.cell? ⟨U, 1, none⟩ = some (.map (some M)) := cell_of_row W U 1 _ _ _ h.us.u
theorem CanS.x0 {w W : World} {Bu Bx U M X Y n : Nat} {x : Int} {D : DataW Unit} (h : CanS w W Bu Bx U M X Y n x D) : W.cell? ⟨Bx, 0, none⟩ = some (.int .i64 1) := cell_of_row W Bx 0 _ _ _ h.bx
theorem CanS.x3 {w W : World} {Bu Bx U M X Y n : Nat} {x : Int} {D : DataW Unit} (h : CanS w W Bu Bx U M X Y n x D) : W.cell? ⟨Bx, 3, none⟩ = some (.int .i64 0) := cell_of_row W Bx 3 _ _ _ h.bx
theorem CanS.x4 {w W : World} {Bu Bx U M X Y n : Nat} {x : Int} {D : DataW Unit} (h : CanS w W Bu Bx U M X Y n x D) : W.cell? ⟨Bx, 4, none⟩ = some (.int .i64 x) := cell_of_row W Bx 4 _ _ _ h.bx
theorem CanS.t0 {w W : World} {Bu Bx U M X Y n : Nat} {x : Int} {D : DataW Unit} (h : CanS w W Bu Bx U M X Y n x D) : W.cell? ⟨X, 0, none⟩ = some (.slice (some ⟨Y, 0, none⟩) 4 4) := cell_of_row W X 0 _ _ _ h.tr.x
theorem wpList_upd {ops : Array Oper} {rest : List Oper} {o : Oper} {a : Act} {W : World} {Q : Exit → Act → World → Prop} (hg : o.guard = none) (hd : o.dst = none) (m x v : Operand) (hop : o.op = Op.mapUpdate 47 m x v) (M n : Nat) (D : DataW Unit)
    (hm : a.eval m = .map (some M)) (hown : W.ownsMap Tryz.prog 3 gE M n D) (hn : n < 100000) (c : Int) (hx : a.eval x = .int .i64 0) (hv : a.eval v = .int .i64 c) (hc : (Lit.int .i64 c).wf = true)
    (hK : ∀ w', w'.ownsMap Tryz.prog 3 gE M (n + 1) (D.put (.int .i64 0) (.lit (.int .i64 c))) → W.grownBy w' (some M) → wpList Tryz.prog ops Q rest a w') : wpList Tryz.prog ops Q (o :: rest) a W := by
  have hp : a.put o.dst undef = a := by rw [hd]; rfl
  exact wpList_mapUpdate_own W hg m x v 47 hop 3 3 (Maps.int_keyed Tryz.underlying3) Tryz.underlying47 gE M n D hm hown (by simp only [maxLen]; omega) _ _ (.int .i64 0) hx hv (by kernel_rfl) (.lit (.int .i64 c)) [] (gE_int c hc) (fun w' h1 h2 => by rw [hp]; exact hK w' h1 h2)
/-- What can leaves. -/
def CanP (w : World) (U M X Y n : Nat) (e : Ending) (w' : World) : Prop := e = .returned (.bool true) ∧ GrB w w' (fun k => k = M) ∧ (∃ n', n' ≤ n + 2 ∧ Us w' U M n' (trV X) mD2) ∧ Tr w' X Y
theorem list6 {l : List Value} (h : l.length = 6) : ∃ y0 y1 y2 y3 y4 y5, l = [y0, y1, y2, y3, y4, y5] := by
  match l, h with
  | y0 :: y1 :: y2 :: y3 :: y4 :: y5 :: [], _ => exact ⟨y0, y1, y2, y3, y4, y5, rfl⟩
theorem list8 {l : List Value} (h : l.length = 8) : ∃ y0 y1 y2 y3 y4 y5 y6 y7, l = [y0, y1, y2, y3, y4, y5, y6, y7] := by
  match l, h with
  | y0 :: y1 :: y2 :: y3 :: y4 :: y5 :: y6 :: y7 :: [], _ => exact ⟨y0, y1, y2, y3, y4, y5, y6, y7, rfl⟩
theorem list10 {l : List Value} (h : l.length = 10) : ∃ y0 y1 y2 y3 y4 y5 y6 y7 y8 y9, l = [y0, y1, y2, y3, y4, y5, y6, y7, y8, y9] := by
  match l, h with
  | y0 :: y1 :: y2 :: y3 :: y4 :: y5 :: y6 :: y7 :: y8 :: y9 :: [], _ => exact ⟨y0, y1, y2, y3, y4, y5, y6, y7, y8, y9, rfl⟩
theorem list13 {l : List Value} (h : l.length = 13) : ∃ y0 y1 y2 y3 y4 y5 y6 y7 y8 y9 y10 y11 y12, l = [y0, y1, y2, y3, y4, y5, y6, y7, y8, y9, y10, y11, y12] := by
  match l, h with
  | y0 :: y1 :: y2 :: y3 :: y4 :: y5 :: y6 :: y7 :: y8 :: y9 :: y10 :: y11 :: y12 :: [], _ => exact ⟨y0, y1, y2, y3, y4, y5, y6, y7, y8, y9, y10, y11, y12, rfl⟩
theorem list28 {l : List Value} (h : l.length = 28) : ∃ y0 y1 y2 y3 y4 y5 y6 y7 y8 y9 y10 y11 y12 y13 y14 y15 y16 y17 y18 y19 y20 y21 y22 y23 y24 y25 y26 y27, l = [y0, y1, y2, y3, y4, y5, y6, y7, y8, y9, y10, y11, y12, y13, y14, y15, y16, y17, y18, y19, y20, y21, y22, y23, y24, y25, y26, y27] := by
  match l, h with
  | y0 :: y1 :: y2 :: y3 :: y4 :: y5 :: y6 :: y7 :: y8 :: y9 :: y10 :: y11 :: y12 :: y13 :: y14 :: y15 :: y16 :: y17 :: y18 :: y19 :: y20 :: y21 :: y22 :: y23 :: y24 :: y25 :: y26 :: y27 :: [], _ => exact ⟨y0, y1, y2, y3, y4, y5, y6, y7, y8, y9, y10, y11, y12, y13, y14, y15, y16, y17, y18, y19, y20, y21, y22, y23, y24, y25, y26, y27, rfl⟩
def ca1 (Bu Bx U M X Y : Nat) : Nat → Value → World → Prop
  | 0 => fun v _ => v = .pointer (some ⟨Bx, 3, none⟩)
  | 1 => fun v _ => v = .int .i64 0
  | 2 => fun v _ => v = .bool false
  | 3 => fun v _ => v = .bool false
  | 4 => fun v _ => v = .pointer (some ⟨Bx, 3, none⟩)
  | 5 => fun v _ => v = .int .i64 0
  | 6 => fun v _ => v = .pointer (some ⟨U, 0, none⟩)
  | 7 => fun v _ => v = .pointer (some ⟨U, 0, none⟩)
  | 8 => fun v _ => v = .pointer (some ⟨U, 0, none⟩)
  | 9 => fun v _ => v = .slice (some ⟨X, 0, none⟩) 1 1
  | 10 => fun v _ => v = .int .i64 1
  | 11 => fun v _ => v = .bool false
  | 12 => fun v _ => v = .bool false
  | _ => fun _ _ => True
theorem ca1m (Bu Bx U M X Y : Nat) (jx : Nat) (v : Value) (w w' : World) (hb : Below w.heap.size w w') (h : ca1 Bu Bx U M X Y jx v w) : ca1 Bu Bx U M X Y jx v w' := by
  unfold ca1 at h ⊢
  split at h
  all_goals first | exact h | trivial
def ca2 (Bu Bx U M X Y : Nat) : Nat → Value → World → Prop
  | 0 => fun v _ => v = .pointer (some ⟨U, 0, none⟩)
  | 1 => fun v _ => v = .pointer (some ⟨U, 0, none⟩)
  | 2 => fun v _ => v = .pointer (some ⟨U, 1, none⟩)
  | 3 => fun v _ => v = .map (some M)
  | 4 => fun v _ => v = .pointer (some ⟨Bx, 3, none⟩)
  | 5 => fun v _ => v = .int .i64 0
  | 6 => fun v _ => v = .int .i64 0
  | 7 => fun v _ => v = .bool true
  | _ => fun _ _ => True
theorem ca2m (Bu Bx U M X Y : Nat) (jx : Nat) (v : Value) (w w' : World) (hb : Below w.heap.size w w') (h : ca2 Bu Bx U M X Y jx v w) : ca2 Bu Bx U M X Y jx v w' := by
  unfold ca2 at h ⊢
  split at h
  all_goals first | exact h | trivial
def ca3 (Bu Bx U M X Y : Nat) : Nat → Value → World → Prop
  | 0 => fun v _ => v = .pointer (some ⟨U, 0, none⟩)
  | 1 => fun v _ => v = .pointer (some ⟨U, 0, none⟩)
  | 2 => fun v _ => v = .pointer (some ⟨U, 1, none⟩)
  | 3 => fun v _ => v = .map (some M)
  | 4 => fun v _ => v = .pointer (some ⟨Bx, 3, none⟩)
  | 5 => fun v _ => v = .int .i64 0
  | _ => fun _ _ => True
theorem ca3m (Bu Bx U M X Y : Nat) (jx : Nat) (v : Value) (w w' : World) (hb : Below w.heap.size w w') (h : ca3 Bu Bx U M X Y jx v w) : ca3 Bu Bx U M X Y jx v w' := by
  unfold ca3 at h ⊢
  split at h
  all_goals first | exact h | trivial
def ca4 (Bu Bx U M X Y : Nat) : Nat → Value → World → Prop
  | 0 => fun v _ => v = .pointer (some ⟨U, 0, none⟩)
  | 1 => fun v _ => v = .pointer (some ⟨U, 0, none⟩)
  | 2 => fun v _ => v = .pointer (some ⟨U, 0, none⟩)
  | 3 => fun v _ => v = .slice (some ⟨X, 0, none⟩) 1 1
  | 4 => fun v _ => v = .pointer (some ⟨Bx, 3, none⟩)
  | 5 => fun v _ => v = .int .i64 0
  | 6 => fun v _ => v = .pointer (some ⟨X, 0, none⟩)
  | 7 => fun v _ => v = .agg #[.slice (some ⟨Y, 0, none⟩) 4 4]
  | 8 => fun v _ => v = .int .i64 0
  | 9 => fun v _ => v = .bool true
  | _ => fun _ _ => True
theorem ca4m (Bu Bx U M X Y : Nat) (jx : Nat) (v : Value) (w w' : World) (hb : Below w.heap.size w w') (h : ca4 Bu Bx U M X Y jx v w) : ca4 Bu Bx U M X Y jx v w' := by
  unfold ca4 at h ⊢
  split at h
  all_goals first | exact h | trivial
def ca5 (Bu Bx U M X Y : Nat) : Nat → Value → World → Prop
  | 0 => fun v _ => v = .pointer (some ⟨U, 0, none⟩)
  | 1 => fun v _ => v = .pointer (some ⟨U, 0, none⟩)
  | 2 => fun v _ => v = .pointer (some ⟨U, 1, none⟩)
  | 3 => fun v _ => v = .map (some M)
  | 4 => fun v _ => v = .pointer (some ⟨Bx, 3, none⟩)
  | 5 => fun v _ => v = .int .i64 0
  | _ => fun _ _ => True
theorem ca5m (Bu Bx U M X Y : Nat) (jx : Nat) (v : Value) (w w' : World) (hb : Below w.heap.size w w') (h : ca5 Bu Bx U M X Y jx v w) : ca5 Bu Bx U M X Y jx v w' := by
  unfold ca5 at h ⊢
  split at h
  all_goals first | exact h | trivial
def ca6 (Bu Bx U M X Y : Nat) : Nat → Value → World → Prop
  | 0 => fun v _ => v = .pointer (some ⟨U, 0, none⟩)
  | 1 => fun v _ => v = .pointer (some ⟨U, 0, none⟩)
  | 2 => fun v _ => v = .pointer (some ⟨U, 1, none⟩)
  | 3 => fun v _ => v = .map (some M)
  | 4 => fun v _ => v = .pointer (some ⟨Bx, 3, none⟩)
  | 5 => fun v _ => v = .int .i64 0
  | 6 => fun v _ => v = .int .i64 1
  | 7 => fun v _ => v = .bool true
  | 8 => fun v _ => v = .bool true
  | 9 => fun v _ => v = .pointer (some ⟨Bx, 4, none⟩)
  | 10 => fun v _ => v = .int .i64 1
  | 11 => fun v _ => v = .bool true
  | 12 => fun v _ => v = .bool true
  | 13 => fun v _ => v = .bool true
  | 14 => fun v _ => v = .pointer (some ⟨Bx, 4, none⟩)
  | 15 => fun v _ => v = .int .i64 1
  | 16 => fun v _ => v = .pointer (some ⟨U, 0, none⟩)
  | 17 => fun v _ => v = .pointer (some ⟨U, 0, none⟩)
  | 18 => fun v _ => v = .pointer (some ⟨U, 0, none⟩)
  | 19 => fun v _ => v = .slice (some ⟨X, 0, none⟩) 1 1
  | 20 => fun v _ => v = .pointer (some ⟨Bx, 3, none⟩)
  | 21 => fun v _ => v = .int .i64 0
  | 22 => fun v _ => v = .pointer (some ⟨X, 0, none⟩)
  | 23 => fun v _ => v = .pointer (some ⟨X, 0, none⟩)
  | 24 => fun v _ => v = .slice (some ⟨Y, 0, none⟩) 4 4
  | 25 => fun v _ => v = .int .i64 4
  | 26 => fun v _ => v = .bool true
  | 27 => fun v _ => v = .bool true
  | _ => fun _ _ => True
theorem ca6m (Bu Bx U M X Y : Nat) (jx : Nat) (v : Value) (w w' : World) (hb : Below w.heap.size w w') (h : ca6 Bu Bx U M X Y jx v w) : ca6 Bu Bx U M X Y jx v w' := by
  unfold ca6 at h ⊢
  split at h
  all_goals first | exact h | trivial
def ca7 (Bu Bx U M X Y : Nat) : Nat → Value → World → Prop
  | 0 => fun v _ => v = .pointer (some ⟨Bx, 3, none⟩)
  | 1 => fun v _ => v = .int .i64 0
  | 2 => fun v _ => v = .bool false
  | 3 => fun v _ => v = .bool false
  | 4 => fun v _ => v = .pointer (some ⟨Bx, 3, none⟩)
  | 5 => fun v _ => v = .int .i64 0
  | 6 => fun v _ => v = .pointer (some ⟨U, 0, none⟩)
  | 7 => fun v _ => v = .pointer (some ⟨U, 0, none⟩)
  | 8 => fun v _ => v = .pointer (some ⟨U, 0, none⟩)
  | 9 => fun v _ => v = .slice (some ⟨X, 0, none⟩) 1 1
  | 10 => fun v _ => v = .int .i64 1
  | 11 => fun v _ => v = .bool false
  | 12 => fun v _ => v = .bool false
  | _ => fun _ _ => True
theorem ca7m (Bu Bx U M X Y : Nat) (jx : Nat) (v : Value) (w w' : World) (hb : Below w.heap.size w w') (h : ca7 Bu Bx U M X Y jx v w) : ca7 Bu Bx U M X Y jx v w' := by
  unfold ca7 at h ⊢
  split at h
  all_goals first | exact h | trivial
def ca8 (Bu Bx U M X Y : Nat) : Nat → Value → World → Prop
  | 0 => fun v _ => v = .pointer (some ⟨U, 0, none⟩)
  | 1 => fun v _ => v = .pointer (some ⟨U, 0, none⟩)
  | 2 => fun v _ => v = .pointer (some ⟨U, 1, none⟩)
  | 3 => fun v _ => v = .map (some M)
  | 4 => fun v _ => v = .pointer (some ⟨Bx, 3, none⟩)
  | 5 => fun v _ => v = .int .i64 0
  | 6 => fun v _ => v = .int .i64 1
  | 7 => fun v _ => v = .bool false
  | _ => fun _ _ => True
theorem ca8m (Bu Bx U M X Y : Nat) (jx : Nat) (v : Value) (w w' : World) (hb : Below w.heap.size w w') (h : ca8 Bu Bx U M X Y jx v w) : ca8 Bu Bx U M X Y jx v w' := by
  unfold ca8 at h ⊢
  split at h
  all_goals first | exact h | trivial
def ca9 (Bu Bx U M X Y : Nat) : Nat → Value → World → Prop
  | 0 => fun v _ => v = .pointer (some ⟨U, 0, none⟩)
  | 1 => fun v _ => v = .pointer (some ⟨U, 0, none⟩)
  | 2 => fun v _ => v = .pointer (some ⟨U, 1, none⟩)
  | 3 => fun v _ => v = .map (some M)
  | 4 => fun v _ => v = .pointer (some ⟨Bx, 3, none⟩)
  | 5 => fun v _ => v = .int .i64 0
  | 6 => fun v _ => v = .int .i64 1
  | 7 => fun v _ => v = .bool true
  | 8 => fun v _ => v = .bool true
  | 9 => fun v _ => v = .pointer (some ⟨Bx, 4, none⟩)
  | 10 => fun v _ => v = .int .i64 2
  | 11 => fun v _ => v = .bool true
  | 12 => fun v _ => v = .bool true
  | 13 => fun v _ => v = .bool true
  | 14 => fun v _ => v = .pointer (some ⟨Bx, 4, none⟩)
  | 15 => fun v _ => v = .int .i64 2
  | 16 => fun v _ => v = .pointer (some ⟨U, 0, none⟩)
  | 17 => fun v _ => v = .pointer (some ⟨U, 0, none⟩)
  | 18 => fun v _ => v = .pointer (some ⟨U, 0, none⟩)
  | 19 => fun v _ => v = .slice (some ⟨X, 0, none⟩) 1 1
  | 20 => fun v _ => v = .pointer (some ⟨Bx, 3, none⟩)
  | 21 => fun v _ => v = .int .i64 0
  | 22 => fun v _ => v = .pointer (some ⟨X, 0, none⟩)
  | 23 => fun v _ => v = .pointer (some ⟨X, 0, none⟩)
  | 24 => fun v _ => v = .slice (some ⟨Y, 0, none⟩) 4 4
  | 25 => fun v _ => v = .int .i64 4
  | 26 => fun v _ => v = .bool true
  | 27 => fun v _ => v = .bool true
  | _ => fun _ _ => True
theorem ca9m (Bu Bx U M X Y : Nat) (jx : Nat) (v : Value) (w w' : World) (hb : Below w.heap.size w w') (h : ca9 Bu Bx U M X Y jx v w) : ca9 Bu Bx U M X Y jx v w' := by
  unfold ca9 at h ⊢
  split at h
  all_goals first | exact h | trivial
set_option maxRecDepth 100000 in
set_option maxHeartbeats 4000000 in
theorem can_first (U M X Y n : Nat) (w : World) (hu : Us w U M n (trV X) mD0) (ht : Tr w X Y) (hn : n ≤ 1000) : Calls Tryz.prog 26 #[.pointer (some ⟨U, 0, none⟩), itV (nodeR 1)] w (CanP w U M X Y n) := by
  have S : Hid (CanS w ((w.alloc (.cells #[.pointer (some ⟨U, 0, none⟩)] 46)).alloc (.cells #[.int .i64 1, .int .i64 0, .string eS, .int .i64 0, .int .i64 1, .slice none 0 0, .slice none 0 0, .pointer none] 29)) w.heap.size (w.heap.size + 1) U M X Y n 1 mD0) := by
    have hb : Below w.heap.size w ((w.alloc (.cells #[.pointer (some ⟨U, 0, none⟩)] 46)).alloc (.cells #[.int .i64 1, .int .i64 0, .string eS, .int .i64 0, .int .i64 1, .slice none 0 0, .slice none 0 0, .pointer none] 29)) := ((Below.refl _ w).alloc (Nat.le_refl _) _).alloc (by simp) _
    exact Lib.hid ⟨GrB.of_below hb, hp_past (hp_new rfl), hp_new (by simp), hu.go hb, ht.below hb⟩
  have HN := Lib.hid hn
  clear hu ht hn
  unfold itV nodeR
  go_enter Tryz.func26, Tryz.ntmps26
  go_wp2_with fail
  generalize ((w.alloc (.cells #[.pointer (some ⟨U, 0, none⟩)] 46)).alloc (.cells #[.int .i64 1, .int .i64 0, .string eS, .int .i64 0, .int .i64 1, .slice none 0 0, .slice none 0 0, .pointer none] 29)) = W0 at *
  generalize w.heap.size + 1 = Bx at *
  obtain ⟨Bu, hBu⟩ : ∃ Bu, w.heap.size = Bu := ⟨_, rfl⟩
  simp only [hBu] at S
  simp only [hBu]
  refine wp_region_drawn (by kernel_rfl) 13 100 [14, 15, 16, 17, 18, 19, 20, 21, 22, 23, 24, 25, 26] (ca1 Bu Bx U M X Y) rfl (by kernel_rfl) (ca1m _ _ _ _ _ _) ?_ ?_
  · intro i o hi ho ys W hys hb hdep
    obtain ⟨y0, y1, y2, y3, y4, y5, y6, y7, y8, y9, y10, y11, y12, rfl⟩ := list13 hys
    have hi' : i = 0 ∨ i = 1 ∨ i = 2 ∨ i = 3 ∨ i = 4 ∨ i = 5 ∨ i = 6 ∨ i = 7 ∨ i = 8 ∨ i = 9 ∨ i = 10 ∨ i = 11 ∨ i = 12 := by omega
    simp only [setM, List.setIfInBounds_toArray, List.set_cons_zero, List.set_cons_succ]
    rcases hi' with rfl | rfl | rfl | rfl | rfl | rfl | rfl | rfl | rfl | rfl | rfl | rfl | rfl
    · cases ho
      go_wp2
      exact ⟨rfl, _, rfl, Below.refl _ _, rfl⟩
    · cases ho
      obtain rfl : y0 = .pointer (some ⟨Bx, 3, none⟩) := hdep 0 (by omega) (by kernel_rfl)
      have T := S.out.go hb
      have h0 := T.x3
      go_wp2
      exact ⟨rfl, _, rfl, Below.refl _ _, rfl⟩
    · cases ho
      obtain rfl : y1 = .int .i64 0 := hdep 1 (by omega) (by kernel_rfl)
      go_wp2
      exact ⟨rfl, _, rfl, Below.refl _ _, rfl⟩
    · cases ho
      obtain rfl : y2 = .bool false := hdep 2 (by omega) (by kernel_rfl)
      go_wp2
      exact ⟨rfl, _, rfl, Below.refl _ _, rfl⟩
    · cases ho
      obtain rfl : y3 = .bool false := hdep 3 (by omega) (by kernel_rfl)
      go_wp2
      exact ⟨rfl, _, rfl, Below.refl _ _, rfl⟩
    · cases ho
      obtain rfl : y4 = .pointer (some ⟨Bx, 3, none⟩) := hdep 4 (by omega) (by kernel_rfl)
      obtain rfl : y3 = .bool false := hdep 3 (by omega) (by kernel_rfl)
      have T := S.out.go hb
      have h0 := T.x3
      go_wp2
      exact ⟨rfl, _, rfl, Below.refl _ _, rfl⟩
    · cases ho
      obtain rfl : y3 = .bool false := hdep 3 (by omega) (by kernel_rfl)
      have T := S.out.go hb
      have h0 := T.cu
      go_wp2
      exact ⟨rfl, _, rfl, Below.refl _ _, rfl⟩
    · cases ho
      obtain rfl : y6 = .pointer (some ⟨U, 0, none⟩) := hdep 6 (by omega) (by kernel_rfl)
      obtain rfl : y3 = .bool false := hdep 3 (by omega) (by kernel_rfl)
      go_wp2
      exact ⟨rfl, _, rfl, Below.refl _ _, rfl⟩
    · cases ho
      obtain rfl : y7 = .pointer (some ⟨U, 0, none⟩) := hdep 7 (by omega) (by kernel_rfl)
      obtain rfl : y3 = .bool false := hdep 3 (by omega) (by kernel_rfl)
      go_wp2
      exact ⟨rfl, _, rfl, Below.refl _ _, rfl⟩
    · cases ho
      obtain rfl : y8 = .pointer (some ⟨U, 0, none⟩) := hdep 8 (by omega) (by kernel_rfl)
      obtain rfl : y3 = .bool false := hdep 3 (by omega) (by kernel_rfl)
      have T := S.out.go hb
      have h0 := T.u0
      go_wp2
      exact ⟨rfl, _, rfl, Below.refl _ _, rfl⟩
    · cases ho
      obtain rfl : y9 = .slice (some ⟨X, 0, none⟩) 1 1 := hdep 9 (by omega) (by kernel_rfl)
      obtain rfl : y3 = .bool false := hdep 3 (by omega) (by kernel_rfl)
      go_wp2
      exact ⟨rfl, _, rfl, Below.refl _ _, rfl⟩
    · cases ho
      obtain rfl : y5 = .int .i64 0 := hdep 5 (by omega) (by kernel_rfl)
      obtain rfl : y10 = .int .i64 1 := hdep 10 (by omega) (by kernel_rfl)
      obtain rfl : y3 = .bool false := hdep 3 (by omega) (by kernel_rfl)
      go_wp2
      exact ⟨rfl, _, rfl, Below.refl _ _, rfl⟩
    · cases ho
      obtain rfl : y3 = .bool false := hdep 3 (by omega) (by kernel_rfl)
      obtain rfl : y11 = .bool false := hdep 11 (by omega) (by kernel_rfl)
      go_wp2
      exact ⟨rfl, _, rfl, Below.refl _ _, rfl⟩
  · intro ys W hys hb hall
    obtain ⟨y0, y1, y2, y3, y4, y5, y6, y7, y8, y9, y10, y11, y12, rfl⟩ := list13 hys
    simp only [setM, List.setIfInBounds_toArray, List.set_cons_zero, List.set_cons_succ]
    obtain rfl : y12 = .bool false := hall 12 (by omega)
    clear hall
    simp only [List.drop_succ_cons, List.drop_zero]
    replace S := Lib.hid (S.out.go hb)
    clear hb
    generalize W = W1 at *
    go_wp2_with fail
    refine wp_region_drawn (by kernel_rfl) 8 100 [27, 28, 29, 30, 31, 32, 33, 34] (ca2 Bu Bx U M X Y) rfl (by kernel_rfl) (ca2m _ _ _ _ _ _) ?_ ?_
    · intro i o hi ho ys W hys hb hdep
      obtain ⟨y0, y1, y2, y3, y4, y5, y6, y7, rfl⟩ := list8 hys
      have hi' : i = 0 ∨ i = 1 ∨ i = 2 ∨ i = 3 ∨ i = 4 ∨ i = 5 ∨ i = 6 ∨ i = 7 := by omega
      simp only [setM, List.setIfInBounds_toArray, List.set_cons_zero, List.set_cons_succ]
      rcases hi' with rfl | rfl | rfl | rfl | rfl | rfl | rfl | rfl
      · cases ho
        have T := S.out.go hb
        have h0 := T.cu
        go_wp2
        exact ⟨rfl, _, rfl, Below.refl _ _, rfl⟩
      · cases ho
        obtain rfl : y0 = .pointer (some ⟨U, 0, none⟩) := hdep 0 (by omega) (by kernel_rfl)
        go_wp2
        exact ⟨rfl, _, rfl, Below.refl _ _, rfl⟩
      · cases ho
        obtain rfl : y1 = .pointer (some ⟨U, 0, none⟩) := hdep 1 (by omega) (by kernel_rfl)
        go_wp2
        exact ⟨rfl, _, rfl, Below.refl _ _, rfl⟩
      · cases ho
        obtain rfl : y2 = .pointer (some ⟨U, 1, none⟩) := hdep 2 (by omega) (by kernel_rfl)
        have T := S.out.go hb
        have h0 := T.u1
        go_wp2
        exact ⟨rfl, _, rfl, Below.refl _ _, rfl⟩
      · cases ho
        go_wp2
        exact ⟨rfl, _, rfl, Below.refl _ _, rfl⟩
      · cases ho
        obtain rfl : y4 = .pointer (some ⟨Bx, 3, none⟩) := hdep 4 (by omega) (by kernel_rfl)
        have T := S.out.go hb
        have h0 := T.x3
        go_wp2
        exact ⟨rfl, _, rfl, Below.refl _ _, rfl⟩
      · cases ho
        obtain rfl : y3 = .map (some M) := hdep 3 (by omega) (by kernel_rfl)
        obtain rfl : y5 = .int .i64 0 := hdep 5 (by omega) (by kernel_rfl)
        have T := S.out.go hb
        have h0 := T.us.look mD0_at
        go_wp2
        exact ⟨rfl, _, rfl, Below.refl _ _, rfl⟩
      · cases ho
        obtain rfl : y6 = .int .i64 0 := hdep 6 (by omega) (by kernel_rfl)
        go_wp2
        exact ⟨rfl, _, rfl, Below.refl _ _, rfl⟩
    · intro ys W hys hb hall
      obtain ⟨y0, y1, y2, y3, y4, y5, y6, y7, rfl⟩ := list8 hys
      simp only [setM, List.setIfInBounds_toArray, List.set_cons_zero, List.set_cons_succ]
      obtain rfl : y7 = .bool true := hall 7 (by omega)
      clear hall
      simp only [List.drop_succ_cons, List.drop_zero]
      replace S := Lib.hid (S.out.go hb)
      clear hb
      generalize W = W1 at *
      go_wp2_with fail
      refine wp_region_drawn (by kernel_rfl) 6 100 [35, 36, 37, 38, 39, 40] (ca3 Bu Bx U M X Y) rfl (by kernel_rfl) (ca3m _ _ _ _ _ _) ?_ ?_
      · intro i o hi ho ys W hys hb hdep
        obtain ⟨y0, y1, y2, y3, y4, y5, rfl⟩ := list6 hys
        have hi' : i = 0 ∨ i = 1 ∨ i = 2 ∨ i = 3 ∨ i = 4 ∨ i = 5 := by omega
        simp only [setM, List.setIfInBounds_toArray, List.set_cons_zero, List.set_cons_succ]
        rcases hi' with rfl | rfl | rfl | rfl | rfl | rfl
        · cases ho
          have T := S.out.go hb
          have h0 := T.cu
          go_wp2
          exact ⟨rfl, _, rfl, Below.refl _ _, rfl⟩
        · cases ho
          obtain rfl : y0 = .pointer (some ⟨U, 0, none⟩) := hdep 0 (by omega) (by kernel_rfl)
          go_wp2
          exact ⟨rfl, _, rfl, Below.refl _ _, rfl⟩
        · cases ho
          obtain rfl : y1 = .pointer (some ⟨U, 0, none⟩) := hdep 1 (by omega) (by kernel_rfl)
          go_wp2
          exact ⟨rfl, _, rfl, Below.refl _ _, rfl⟩
        · cases ho
          obtain rfl : y2 = .pointer (some ⟨U, 1, none⟩) := hdep 2 (by omega) (by kernel_rfl)
          have T := S.out.go hb
          have h0 := T.u1
          go_wp2
          exact ⟨rfl, _, rfl, Below.refl _ _, rfl⟩
        · cases ho
          go_wp2
          exact ⟨rfl, _, rfl, Below.refl _ _, rfl⟩
        · cases ho
          obtain rfl : y4 = .pointer (some ⟨Bx, 3, none⟩) := hdep 4 (by omega) (by kernel_rfl)
          have T := S.out.go hb
          have h0 := T.x3
          go_wp2
          exact ⟨rfl, _, rfl, Below.refl _ _, rfl⟩
      · intro ys W hys hb hall
        obtain ⟨y0, y1, y2, y3, y4, y5, rfl⟩ := list6 hys
        simp only [setM, List.setIfInBounds_toArray, List.set_cons_zero, List.set_cons_succ]
        obtain rfl : y3 = .map (some M) := hall 3 (by omega)
        obtain rfl : y5 = .int .i64 0 := hall 5 (by omega)
        clear hall
        simp only [List.drop_succ_cons, List.drop_zero]
        replace S := Lib.hid (S.out.go hb)
        clear hb
        generalize W = W1 at *
        refine wpList_upd rfl rfl _ _ _ rfl M n _ rfl S.out.us.m (by have := HN.out; omega) (-1) rfl rfl (by decide) ?_
        intro w1 hown1 hgrow1
        replace S := Lib.hid (S.out.put hown1 hgrow1)
        clear hown1 hgrow1
        generalize w1 = W2 at *
        go_wp2_with fail
        refine wp_region_drawn (by kernel_rfl) 10 100 [41, 42, 43, 44, 45, 46, 47, 48, 49, 50] (ca4 Bu Bx U M X Y) rfl (by kernel_rfl) (ca4m _ _ _ _ _ _) ?_ ?_
        · intro i o hi ho ys W hys hb hdep
          obtain ⟨y0, y1, y2, y3, y4, y5, y6, y7, y8, y9, rfl⟩ := list10 hys
          have hi' : i = 0 ∨ i = 1 ∨ i = 2 ∨ i = 3 ∨ i = 4 ∨ i = 5 ∨ i = 6 ∨ i = 7 ∨ i = 8 ∨ i = 9 := by omega
          simp only [setM, List.setIfInBounds_toArray, List.set_cons_zero, List.set_cons_succ]
          rcases hi' with rfl | rfl | rfl | rfl | rfl | rfl | rfl | rfl | rfl | rfl
          · cases ho
            have T := S.out.go hb
            have h0 := T.cu
            go_wp2
            exact ⟨rfl, _, rfl, Below.refl _ _, rfl⟩
          · cases ho
            obtain rfl : y0 = .pointer (some ⟨U, 0, none⟩) := hdep 0 (by omega) (by kernel_rfl)
            go_wp2
            exact ⟨rfl, _, rfl, Below.refl _ _, rfl⟩
          · cases ho
            obtain rfl : y1 = .pointer (some ⟨U, 0, none⟩) := hdep 1 (by omega) (by kernel_rfl)
            go_wp2
            exact ⟨rfl, _, rfl, Below.refl _ _, rfl⟩
          · cases ho
            obtain rfl : y2 = .pointer (some ⟨U, 0, none⟩) := hdep 2 (by omega) (by kernel_rfl)
            have T := S.out.go hb
            have h0 := T.u0
            go_wp2
            exact ⟨rfl, _, rfl, Below.refl _ _, rfl⟩
          · cases ho
            go_wp2
            exact ⟨rfl, _, rfl, Below.refl _ _, rfl⟩
          · cases ho
            obtain rfl : y4 = .pointer (some ⟨Bx, 3, none⟩) := hdep 4 (by omega) (by kernel_rfl)
            have T := S.out.go hb
            have h0 := T.x3
            go_wp2
            exact ⟨rfl, _, rfl, Below.refl _ _, rfl⟩
          · cases ho
            obtain rfl : y3 = .slice (some ⟨X, 0, none⟩) 1 1 := hdep 3 (by omega) (by kernel_rfl)
            obtain rfl : y5 = .int .i64 0 := hdep 5 (by omega) (by kernel_rfl)
            go_wp2
            exact ⟨rfl, _, rfl, Below.refl _ _, rfl⟩
          · cases ho
            obtain rfl : y6 = .pointer (some ⟨X, 0, none⟩) := hdep 6 (by omega) (by kernel_rfl)
            have T := S.out.go hb
            have h0 := T.t0
            go_wp2
            exact ⟨rfl, _, rfl, Below.refl _ _, rfl⟩
          · cases ho
            obtain rfl : y7 = .agg #[.slice (some ⟨Y, 0, none⟩) 4 4] := hdep 7 (by omega) (by kernel_rfl)
            go_wp2_with fail
            refine (check_ex Y _ (S.out.go hb).tr.y).mono ?_
            rintro e w1 ⟨rfl, hb1⟩
            go_wp2
            exact ⟨rfl, _, rfl, hb1, rfl⟩
          · cases ho
            obtain rfl : y8 = .int .i64 0 := hdep 8 (by omega) (by kernel_rfl)
            go_wp2
            exact ⟨rfl, _, rfl, Below.refl _ _, rfl⟩
        · intro ys W hys hb hall
          obtain ⟨y0, y1, y2, y3, y4, y5, y6, y7, y8, y9, rfl⟩ := list10 hys
          simp only [setM, List.setIfInBounds_toArray, List.set_cons_zero, List.set_cons_succ]
          obtain rfl : y9 = .bool true := hall 9 (by omega)
          clear hall
          simp only [List.drop_succ_cons, List.drop_zero]
          replace S := Lib.hid (S.out.go hb)
          clear hb
          generalize W = W1 at *
          go_wp2_with fail
          refine wp_region_drawn (by kernel_rfl) 6 100 [51, 52, 53, 54, 55, 56] (ca5 Bu Bx U M X Y) rfl (by kernel_rfl) (ca5m _ _ _ _ _ _) ?_ ?_
          · intro i o hi ho ys W hys hb hdep
            obtain ⟨y0, y1, y2, y3, y4, y5, rfl⟩ := list6 hys
            have hi' : i = 0 ∨ i = 1 ∨ i = 2 ∨ i = 3 ∨ i = 4 ∨ i = 5 := by omega
            simp only [setM, List.setIfInBounds_toArray, List.set_cons_zero, List.set_cons_succ]
            rcases hi' with rfl | rfl | rfl | rfl | rfl | rfl
            · cases ho
              have T := S.out.go hb
              have h0 := T.cu
              go_wp2
              exact ⟨rfl, _, rfl, Below.refl _ _, rfl⟩
            · cases ho
              obtain rfl : y0 = .pointer (some ⟨U, 0, none⟩) := hdep 0 (by omega) (by kernel_rfl)
              go_wp2
              exact ⟨rfl, _, rfl, Below.refl _ _, rfl⟩
            · cases ho
              obtain rfl : y1 = .pointer (some ⟨U, 0, none⟩) := hdep 1 (by omega) (by kernel_rfl)
              go_wp2
              exact ⟨rfl, _, rfl, Below.refl _ _, rfl⟩
            · cases ho
              obtain rfl : y2 = .pointer (some ⟨U, 1, none⟩) := hdep 2 (by omega) (by kernel_rfl)
              have T := S.out.go hb
              have h0 := T.u1
              go_wp2
              exact ⟨rfl, _, rfl, Below.refl _ _, rfl⟩
            · cases ho
              go_wp2
              exact ⟨rfl, _, rfl, Below.refl _ _, rfl⟩
            · cases ho
              obtain rfl : y4 = .pointer (some ⟨Bx, 3, none⟩) := hdep 4 (by omega) (by kernel_rfl)
              have T := S.out.go hb
              have h0 := T.x3
              go_wp2
              exact ⟨rfl, _, rfl, Below.refl _ _, rfl⟩
          · intro ys W hys hb hall
            obtain ⟨y0, y1, y2, y3, y4, y5, rfl⟩ := list6 hys
            simp only [setM, List.setIfInBounds_toArray, List.set_cons_zero, List.set_cons_succ]
            obtain rfl : y3 = .map (some M) := hall 3 (by omega)
            obtain rfl : y5 = .int .i64 0 := hall 5 (by omega)
            clear hall
            simp only [List.drop_succ_cons, List.drop_zero]
            replace S := Lib.hid (S.out.go hb)
            clear hb
            generalize W = W1 at *
            refine wpList_upd rfl rfl _ _ _ rfl M (n + 1) _ rfl S.out.us.m (by have := HN.out; omega) 1 rfl rfl (by decide) ?_
            intro w1 hown1 hgrow1
            replace S := Lib.hid (S.out.put hown1 hgrow1)
            clear hown1 hgrow1
            generalize w1 = W2 at *
            go_wp2_with fail
            refine wp_region_drawn (by kernel_rfl) 28 100 [57, 58, 59, 60, 61, 62, 63, 64, 65, 66, 67, 68, 69, 70, 71, 72, 73, 74, 75, 76, 77, 78, 79, 80, 81, 82, 83, 84] (ca6 Bu Bx U M X Y) rfl (by kernel_rfl) (ca6m _ _ _ _ _ _) ?_ ?_
            · intro i o hi ho ys W hys hb hdep
              obtain ⟨y0, y1, y2, y3, y4, y5, y6, y7, y8, y9, y10, y11, y12, y13, y14, y15, y16, y17, y18, y19, y20, y21, y22, y23, y24, y25, y26, y27, rfl⟩ := list28 hys
              have hi' : i = 0 ∨ i = 1 ∨ i = 2 ∨ i = 3 ∨ i = 4 ∨ i = 5 ∨ i = 6 ∨ i = 7 ∨ i = 8 ∨ i = 9 ∨ i = 10 ∨ i = 11 ∨ i = 12 ∨ i = 13 ∨ i = 14 ∨ i = 15 ∨ i = 16 ∨ i = 17 ∨ i = 18 ∨ i = 19 ∨ i = 20 ∨ i = 21 ∨ i = 22 ∨ i = 23 ∨ i = 24 ∨ i = 25 ∨ i = 26 ∨ i = 27 := by omega
              simp only [setM, List.setIfInBounds_toArray, List.set_cons_zero, List.set_cons_succ]
              rcases hi' with rfl | rfl | rfl | rfl | rfl | rfl | rfl | rfl | rfl | rfl | rfl | rfl | rfl | rfl | rfl | rfl | rfl | rfl | rfl | rfl | rfl | rfl | rfl | rfl | rfl | rfl | rfl | rfl
              · cases ho
                have T := S.out.go hb
                have h0 := T.cu
                go_wp2
                exact ⟨rfl, _, rfl, Below.refl _ _, rfl⟩
              · cases ho
                obtain rfl : y0 = .pointer (some ⟨U, 0, none⟩) := hdep 0 (by omega) (by kernel_rfl)
                go_wp2
                exact ⟨rfl, _, rfl, Below.refl _ _, rfl⟩
              · cases ho
                obtain rfl : y1 = .pointer (some ⟨U, 0, none⟩) := hdep 1 (by omega) (by kernel_rfl)
                go_wp2
                exact ⟨rfl, _, rfl, Below.refl _ _, rfl⟩
              · cases ho
                obtain rfl : y2 = .pointer (some ⟨U, 1, none⟩) := hdep 2 (by omega) (by kernel_rfl)
                have T := S.out.go hb
                have h0 := T.u1
                go_wp2
                exact ⟨rfl, _, rfl, Below.refl _ _, rfl⟩
              · cases ho
                go_wp2
                exact ⟨rfl, _, rfl, Below.refl _ _, rfl⟩
              · cases ho
                obtain rfl : y4 = .pointer (some ⟨Bx, 3, none⟩) := hdep 4 (by omega) (by kernel_rfl)
                have T := S.out.go hb
                have h0 := T.x3
                go_wp2
                exact ⟨rfl, _, rfl, Below.refl _ _, rfl⟩
              · cases ho
                obtain rfl : y3 = .map (some M) := hdep 3 (by omega) (by kernel_rfl)
                obtain rfl : y5 = .int .i64 0 := hdep 5 (by omega) (by kernel_rfl)
                have T := S.out.go hb
                have h0 := T.us.look mD2_at
                go_wp2
                exact ⟨rfl, _, rfl, Below.refl _ _, rfl⟩
              · cases ho
                obtain rfl : y6 = .int .i64 1 := hdep 6 (by omega) (by kernel_rfl)
                go_wp2
                exact ⟨rfl, _, rfl, Below.refl _ _, rfl⟩
              · cases ho
                obtain rfl : y7 = .bool true := hdep 7 (by omega) (by kernel_rfl)
                go_wp2
                exact ⟨rfl, _, rfl, Below.refl _ _, rfl⟩
              · cases ho
                obtain rfl : y8 = .bool true := hdep 8 (by omega) (by kernel_rfl)
                go_wp2
                exact ⟨rfl, _, rfl, Below.refl _ _, rfl⟩
              · cases ho
                obtain rfl : y9 = .pointer (some ⟨Bx, 4, none⟩) := hdep 9 (by omega) (by kernel_rfl)
                obtain rfl : y8 = .bool true := hdep 8 (by omega) (by kernel_rfl)
                have T := S.out.go hb
                have h0 := T.x4
                go_wp2
                exact ⟨rfl, _, rfl, Below.refl _ _, rfl⟩
              · cases ho
                obtain rfl : y10 = .int .i64 1 := hdep 10 (by omega) (by kernel_rfl)
                obtain rfl : y8 = .bool true := hdep 8 (by omega) (by kernel_rfl)
                go_wp2
                exact ⟨rfl, _, rfl, Below.refl _ _, rfl⟩
              · cases ho
                obtain rfl : y8 = .bool true := hdep 8 (by omega) (by kernel_rfl)
                obtain rfl : y11 = .bool true := hdep 11 (by omega) (by kernel_rfl)
                go_wp2
                exact ⟨rfl, _, rfl, Below.refl _ _, rfl⟩
              · cases ho
                obtain rfl : y12 = .bool true := hdep 12 (by omega) (by kernel_rfl)
                go_wp2
                exact ⟨rfl, _, rfl, Below.refl _ _, rfl⟩
              · cases ho
                obtain rfl : y13 = .bool true := hdep 13 (by omega) (by kernel_rfl)
                go_wp2
                exact ⟨rfl, _, rfl, Below.refl _ _, rfl⟩
              · cases ho
                obtain rfl : y14 = .pointer (some ⟨Bx, 4, none⟩) := hdep 14 (by omega) (by kernel_rfl)
                obtain rfl : y13 = .bool true := hdep 13 (by omega) (by kernel_rfl)
                have T := S.out.go hb
                have h0 := T.x4
                go_wp2
                exact ⟨rfl, _, rfl, Below.refl _ _, rfl⟩
              · cases ho
                obtain rfl : y13 = .bool true := hdep 13 (by omega) (by kernel_rfl)
                have T := S.out.go hb
                have h0 := T.cu
                go_wp2
                exact ⟨rfl, _, rfl, Below.refl _ _, rfl⟩
              · cases ho
                obtain rfl : y16 = .pointer (some ⟨U, 0, none⟩) := hdep 16 (by omega) (by kernel_rfl)
                obtain rfl : y13 = .bool true := hdep 13 (by omega) (by kernel_rfl)
                go_wp2
                exact ⟨rfl, _, rfl, Below.refl _ _, rfl⟩
              · cases ho
                obtain rfl : y17 = .pointer (some ⟨U, 0, none⟩) := hdep 17 (by omega) (by kernel_rfl)
                obtain rfl : y13 = .bool true := hdep 13 (by omega) (by kernel_rfl)
                go_wp2
                exact ⟨rfl, _, rfl, Below.refl _ _, rfl⟩
              · cases ho
                obtain rfl : y18 = .pointer (some ⟨U, 0, none⟩) := hdep 18 (by omega) (by kernel_rfl)
                obtain rfl : y13 = .bool true := hdep 13 (by omega) (by kernel_rfl)
                have T := S.out.go hb
                have h0 := T.u0
                go_wp2
                exact ⟨rfl, _, rfl, Below.refl _ _, rfl⟩
              · cases ho
                obtain rfl : y13 = .bool true := hdep 13 (by omega) (by kernel_rfl)
                go_wp2
                exact ⟨rfl, _, rfl, Below.refl _ _, rfl⟩
              · cases ho
                obtain rfl : y20 = .pointer (some ⟨Bx, 3, none⟩) := hdep 20 (by omega) (by kernel_rfl)
                obtain rfl : y13 = .bool true := hdep 13 (by omega) (by kernel_rfl)
                have T := S.out.go hb
                have h0 := T.x3
                go_wp2
                exact ⟨rfl, _, rfl, Below.refl _ _, rfl⟩
              · cases ho
                obtain rfl : y19 = .slice (some ⟨X, 0, none⟩) 1 1 := hdep 19 (by omega) (by kernel_rfl)
                obtain rfl : y21 = .int .i64 0 := hdep 21 (by omega) (by kernel_rfl)
                obtain rfl : y13 = .bool true := hdep 13 (by omega) (by kernel_rfl)
                go_wp2
                exact ⟨rfl, _, rfl, Below.refl _ _, rfl⟩
              · cases ho
                obtain rfl : y22 = .pointer (some ⟨X, 0, none⟩) := hdep 22 (by omega) (by kernel_rfl)
                obtain rfl : y13 = .bool true := hdep 13 (by omega) (by kernel_rfl)
                go_wp2
                exact ⟨rfl, _, rfl, Below.refl _ _, rfl⟩
              · cases ho
                obtain rfl : y23 = .pointer (some ⟨X, 0, none⟩) := hdep 23 (by omega) (by kernel_rfl)
                obtain rfl : y13 = .bool true := hdep 13 (by omega) (by kernel_rfl)
                have T := S.out.go hb
                have h0 := T.t0
                go_wp2
                exact ⟨rfl, _, rfl, Below.refl _ _, rfl⟩
              · cases ho
                obtain rfl : y24 = .slice (some ⟨Y, 0, none⟩) 4 4 := hdep 24 (by omega) (by kernel_rfl)
                obtain rfl : y13 = .bool true := hdep 13 (by omega) (by kernel_rfl)
                go_wp2
                exact ⟨rfl, _, rfl, Below.refl _ _, rfl⟩
              · cases ho
                obtain rfl : y15 = .int .i64 1 := hdep 15 (by omega) (by kernel_rfl)
                obtain rfl : y25 = .int .i64 4 := hdep 25 (by omega) (by kernel_rfl)
                obtain rfl : y13 = .bool true := hdep 13 (by omega) (by kernel_rfl)
                go_wp2
                exact ⟨rfl, _, rfl, Below.refl _ _, rfl⟩
              · cases ho
                obtain rfl : y13 = .bool true := hdep 13 (by omega) (by kernel_rfl)
                obtain rfl : y26 = .bool true := hdep 26 (by omega) (by kernel_rfl)
                go_wp2
                exact ⟨rfl, _, rfl, Below.refl _ _, rfl⟩
            · intro ys W hys hb hall
              obtain ⟨y0, y1, y2, y3, y4, y5, y6, y7, y8, y9, y10, y11, y12, y13, y14, y15, y16, y17, y18, y19, y20, y21, y22, y23, y24, y25, y26, y27, rfl⟩ := list28 hys
              simp only [setM, List.setIfInBounds_toArray, List.set_cons_zero, List.set_cons_succ]
              obtain rfl : y27 = .bool true := hall 27 (by omega)
              clear hall
              simp only [List.drop_succ_cons, List.drop_zero]
              replace S := Lib.hid (S.out.go hb)
              clear hb
              generalize W = W1 at *
              go_wp2
              go_ret
              exact ⟨rfl, S.out.g, ⟨_, Nat.le_refl _, S.out.us⟩, S.out.tr⟩
set_option maxRecDepth 100000 in
set_option maxHeartbeats 4000000 in
theorem can_next (U M X Y n : Nat) (w : World) (hu : Us w U M n (trV X) mD2) (ht : Tr w X Y) (hn : n ≤ 1000) : Calls Tryz.prog 26 #[.pointer (some ⟨U, 0, none⟩), itV (nodeR 2)] w (CanP w U M X Y n) := by
  have S : Hid (CanS w ((w.alloc (.cells #[.pointer (some ⟨U, 0, none⟩)] 46)).alloc (.cells #[.int .i64 1, .int .i64 0, .string eS, .int .i64 0, .int .i64 2, .slice none 0 0, .slice none 0 0, .pointer none] 29)) w.heap.size (w.heap.size + 1) U M X Y n 2 mD2) := by
    have hb : Below w.heap.size w ((w.alloc (.cells #[.pointer (some ⟨U, 0, none⟩)] 46)).alloc (.cells #[.int .i64 1, .int .i64 0, .string eS, .int .i64 0, .int .i64 2, .slice none 0 0, .slice none 0 0, .pointer none] 29)) := ((Below.refl _ w).alloc (Nat.le_refl _) _).alloc (by simp) _
    exact Lib.hid ⟨GrB.of_below hb, hp_past (hp_new rfl), hp_new (by simp), hu.go hb, ht.below hb⟩
  have HN := Lib.hid hn
  clear hu ht hn
  unfold itV nodeR
  go_enter Tryz.func26, Tryz.ntmps26
  go_wp2_with fail
  generalize ((w.alloc (.cells #[.pointer (some ⟨U, 0, none⟩)] 46)).alloc (.cells #[.int .i64 1, .int .i64 0, .string eS, .int .i64 0, .int .i64 2, .slice none 0 0, .slice none 0 0, .pointer none] 29)) = W0 at *
  generalize w.heap.size + 1 = Bx at *
  obtain ⟨Bu, hBu⟩ : ∃ Bu, w.heap.size = Bu := ⟨_, rfl⟩
  simp only [hBu] at S
  simp only [hBu]
  refine wp_region_drawn (by kernel_rfl) 13 100 [14, 15, 16, 17, 18, 19, 20, 21, 22, 23, 24, 25, 26] (ca7 Bu Bx U M X Y) rfl (by kernel_rfl) (ca7m _ _ _ _ _ _) ?_ ?_
  · intro i o hi ho ys W hys hb hdep
    obtain ⟨y0, y1, y2, y3, y4, y5, y6, y7, y8, y9, y10, y11, y12, rfl⟩ := list13 hys
    have hi' : i = 0 ∨ i = 1 ∨ i = 2 ∨ i = 3 ∨ i = 4 ∨ i = 5 ∨ i = 6 ∨ i = 7 ∨ i = 8 ∨ i = 9 ∨ i = 10 ∨ i = 11 ∨ i = 12 := by omega
    simp only [setM, List.setIfInBounds_toArray, List.set_cons_zero, List.set_cons_succ]
    rcases hi' with rfl | rfl | rfl | rfl | rfl | rfl | rfl | rfl | rfl | rfl | rfl | rfl | rfl
    · cases ho
      go_wp2
      exact ⟨rfl, _, rfl, Below.refl _ _, rfl⟩
    · cases ho
      obtain rfl : y0 = .pointer (some ⟨Bx, 3, none⟩) := hdep 0 (by omega) (by kernel_rfl)
      have T := S.out.go hb
      have h0 := T.x3
      go_wp2
      exact ⟨rfl, _, rfl, Below.refl _ _, rfl⟩
    · cases ho
      obtain rfl : y1 = .int .i64 0 := hdep 1 (by omega) (by kernel_rfl)
      go_wp2
      exact ⟨rfl, _, rfl, Below.refl _ _, rfl⟩
    · cases ho
      obtain rfl : y2 = .bool false := hdep 2 (by omega) (by kernel_rfl)
      go_wp2
      exact ⟨rfl, _, rfl, Below.refl _ _, rfl⟩
    · cases ho
      obtain rfl : y3 = .bool false := hdep 3 (by omega) (by kernel_rfl)
      go_wp2
      exact ⟨rfl, _, rfl, Below.refl _ _, rfl⟩
    · cases ho
      obtain rfl : y4 = .pointer (some ⟨Bx, 3, none⟩) := hdep 4 (by omega) (by kernel_rfl)
      obtain rfl : y3 = .bool false := hdep 3 (by omega) (by kernel_rfl)
      have T := S.out.go hb
      have h0 := T.x3
      go_wp2
      exact ⟨rfl, _, rfl, Below.refl _ _, rfl⟩
    · cases ho
      obtain rfl : y3 = .bool false := hdep 3 (by omega) (by kernel_rfl)
      have T := S.out.go hb
      have h0 := T.cu
      go_wp2
      exact ⟨rfl, _, rfl, Below.refl _ _, rfl⟩
    · cases ho
      obtain rfl : y6 = .pointer (some ⟨U, 0, none⟩) := hdep 6 (by omega) (by kernel_rfl)
      obtain rfl : y3 = .bool false := hdep 3 (by omega) (by kernel_rfl)
      go_wp2
      exact ⟨rfl, _, rfl, Below.refl _ _, rfl⟩
    · cases ho
      obtain rfl : y7 = .pointer (some ⟨U, 0, none⟩) := hdep 7 (by omega) (by kernel_rfl)
      obtain rfl : y3 = .bool false := hdep 3 (by omega) (by kernel_rfl)
      go_wp2
      exact ⟨rfl, _, rfl, Below.refl _ _, rfl⟩
    · cases ho
      obtain rfl : y8 = .pointer (some ⟨U, 0, none⟩) := hdep 8 (by omega) (by kernel_rfl)
      obtain rfl : y3 = .bool false := hdep 3 (by omega) (by kernel_rfl)
      have T := S.out.go hb
      have h0 := T.u0
      go_wp2
      exact ⟨rfl, _, rfl, Below.refl _ _, rfl⟩
    · cases ho
      obtain rfl : y9 = .slice (some ⟨X, 0, none⟩) 1 1 := hdep 9 (by omega) (by kernel_rfl)
      obtain rfl : y3 = .bool false := hdep 3 (by omega) (by kernel_rfl)
      go_wp2
      exact ⟨rfl, _, rfl, Below.refl _ _, rfl⟩
    · cases ho
      obtain rfl : y5 = .int .i64 0 := hdep 5 (by omega) (by kernel_rfl)
      obtain rfl : y10 = .int .i64 1 := hdep 10 (by omega) (by kernel_rfl)
      obtain rfl : y3 = .bool false := hdep 3 (by omega) (by kernel_rfl)
      go_wp2
      exact ⟨rfl, _, rfl, Below.refl _ _, rfl⟩
    · cases ho
      obtain rfl : y3 = .bool false := hdep 3 (by omega) (by kernel_rfl)
      obtain rfl : y11 = .bool false := hdep 11 (by omega) (by kernel_rfl)
      go_wp2
      exact ⟨rfl, _, rfl, Below.refl _ _, rfl⟩
  · intro ys W hys hb hall
    obtain ⟨y0, y1, y2, y3, y4, y5, y6, y7, y8, y9, y10, y11, y12, rfl⟩ := list13 hys
    simp only [setM, List.setIfInBounds_toArray, List.set_cons_zero, List.set_cons_succ]
    obtain rfl : y12 = .bool false := hall 12 (by omega)
    clear hall
    simp only [List.drop_succ_cons, List.drop_zero]
    replace S := Lib.hid (S.out.go hb)
    clear hb
    generalize W = W1 at *
    go_wp2_with fail
    refine wp_region_drawn (by kernel_rfl) 8 100 [27, 28, 29, 30, 31, 32, 33, 34] (ca8 Bu Bx U M X Y) rfl (by kernel_rfl) (ca8m _ _ _ _ _ _) ?_ ?_
    · intro i o hi ho ys W hys hb hdep
      obtain ⟨y0, y1, y2, y3, y4, y5, y6, y7, rfl⟩ := list8 hys
      have hi' : i = 0 ∨ i = 1 ∨ i = 2 ∨ i = 3 ∨ i = 4 ∨ i = 5 ∨ i = 6 ∨ i = 7 := by omega
      simp only [setM, List.setIfInBounds_toArray, List.set_cons_zero, List.set_cons_succ]
      rcases hi' with rfl | rfl | rfl | rfl | rfl | rfl | rfl | rfl
      · cases ho
        have T := S.out.go hb
        have h0 := T.cu
        go_wp2
        exact ⟨rfl, _, rfl, Below.refl _ _, rfl⟩
      · cases ho
        obtain rfl : y0 = .pointer (some ⟨U, 0, none⟩) := hdep 0 (by omega) (by kernel_rfl)
        go_wp2
        exact ⟨rfl, _, rfl, Below.refl _ _, rfl⟩
      · cases ho
        obtain rfl : y1 = .pointer (some ⟨U, 0, none⟩) := hdep 1 (by omega) (by kernel_rfl)
        go_wp2
        exact ⟨rfl, _, rfl, Below.refl _ _, rfl⟩
      · cases ho
        obtain rfl : y2 = .pointer (some ⟨U, 1, none⟩) := hdep 2 (by omega) (by kernel_rfl)
        have T := S.out.go hb
        have h0 := T.u1
        go_wp2
        exact ⟨rfl, _, rfl, Below.refl _ _, rfl⟩
      · cases ho
        go_wp2
        exact ⟨rfl, _, rfl, Below.refl _ _, rfl⟩
      · cases ho
        obtain rfl : y4 = .pointer (some ⟨Bx, 3, none⟩) := hdep 4 (by omega) (by kernel_rfl)
        have T := S.out.go hb
        have h0 := T.x3
        go_wp2
        exact ⟨rfl, _, rfl, Below.refl _ _, rfl⟩
      · cases ho
        obtain rfl : y3 = .map (some M) := hdep 3 (by omega) (by kernel_rfl)
        obtain rfl : y5 = .int .i64 0 := hdep 5 (by omega) (by kernel_rfl)
        have T := S.out.go hb
        have h0 := T.us.look mD2_at
        go_wp2
        exact ⟨rfl, _, rfl, Below.refl _ _, rfl⟩
      · cases ho
        obtain rfl : y6 = .int .i64 1 := hdep 6 (by omega) (by kernel_rfl)
        go_wp2
        exact ⟨rfl, _, rfl, Below.refl _ _, rfl⟩
    · intro ys W hys hb hall
      obtain ⟨y0, y1, y2, y3, y4, y5, y6, y7, rfl⟩ := list8 hys
      simp only [setM, List.setIfInBounds_toArray, List.set_cons_zero, List.set_cons_succ]
      obtain rfl : y7 = .bool false := hall 7 (by omega)
      clear hall
      simp only [List.drop_succ_cons, List.drop_zero]
      replace S := Lib.hid (S.out.go hb)
      clear hb
      generalize W = W1 at *
      go_wp2_with fail
      refine wp_region_drawn (by kernel_rfl) 28 100 [57, 58, 59, 60, 61, 62, 63, 64, 65, 66, 67, 68, 69, 70, 71, 72, 73, 74, 75, 76, 77, 78, 79, 80, 81, 82, 83, 84] (ca9 Bu Bx U M X Y) rfl (by kernel_rfl) (ca9m _ _ _ _ _ _) ?_ ?_
      · intro i o hi ho ys W hys hb hdep
        obtain ⟨y0, y1, y2, y3, y4, y5, y6, y7, y8, y9, y10, y11, y12, y13, y14, y15, y16, y17, y18, y19, y20, y21, y22, y23, y24, y25, y26, y27, rfl⟩ := list28 hys
        have hi' : i = 0 ∨ i = 1 ∨ i = 2 ∨ i = 3 ∨ i = 4 ∨ i = 5 ∨ i = 6 ∨ i = 7 ∨ i = 8 ∨ i = 9 ∨ i = 10 ∨ i = 11 ∨ i = 12 ∨ i = 13 ∨ i = 14 ∨ i = 15 ∨ i = 16 ∨ i = 17 ∨ i = 18 ∨ i = 19 ∨ i = 20 ∨ i = 21 ∨ i = 22 ∨ i = 23 ∨ i = 24 ∨ i = 25 ∨ i = 26 ∨ i = 27 := by omega
        simp only [setM, List.setIfInBounds_toArray, List.set_cons_zero, List.set_cons_succ]
        rcases hi' with rfl | rfl | rfl | rfl | rfl | rfl | rfl | rfl | rfl | rfl | rfl | rfl | rfl | rfl | rfl | rfl | rfl | rfl | rfl | rfl | rfl | rfl | rfl | rfl | rfl | rfl | rfl | rfl
        · cases ho
          have T := S.out.go hb
          have h0 := T.cu
          go_wp2
          exact ⟨rfl, _, rfl, Below.refl _ _, rfl⟩
        · cases ho
          obtain rfl : y0 = .pointer (some ⟨U, 0, none⟩) := hdep 0 (by omega) (by kernel_rfl)
          go_wp2
          exact ⟨rfl, _, rfl, Below.refl _ _, rfl⟩
        · cases ho
          obtain rfl : y1 = .pointer (some ⟨U, 0, none⟩) := hdep 1 (by omega) (by kernel_rfl)
          go_wp2
          exact ⟨rfl, _, rfl, Below.refl _ _, rfl⟩
        · cases ho
          obtain rfl : y2 = .pointer (some ⟨U, 1, none⟩) := hdep 2 (by omega) (by kernel_rfl)
          have T := S.out.go hb
          have h0 := T.u1
          go_wp2
          exact ⟨rfl, _, rfl, Below.refl _ _, rfl⟩
        · cases ho
          go_wp2
          exact ⟨rfl, _, rfl, Below.refl _ _, rfl⟩
        · cases ho
          obtain rfl : y4 = .pointer (some ⟨Bx, 3, none⟩) := hdep 4 (by omega) (by kernel_rfl)
          have T := S.out.go hb
          have h0 := T.x3
          go_wp2
          exact ⟨rfl, _, rfl, Below.refl _ _, rfl⟩
        · cases ho
          obtain rfl : y3 = .map (some M) := hdep 3 (by omega) (by kernel_rfl)
          obtain rfl : y5 = .int .i64 0 := hdep 5 (by omega) (by kernel_rfl)
          have T := S.out.go hb
          have h0 := T.us.look mD2_at
          go_wp2
          exact ⟨rfl, _, rfl, Below.refl _ _, rfl⟩
        · cases ho
          obtain rfl : y6 = .int .i64 1 := hdep 6 (by omega) (by kernel_rfl)
          go_wp2
          exact ⟨rfl, _, rfl, Below.refl _ _, rfl⟩
        · cases ho
          obtain rfl : y7 = .bool true := hdep 7 (by omega) (by kernel_rfl)
          go_wp2
          exact ⟨rfl, _, rfl, Below.refl _ _, rfl⟩
        · cases ho
          obtain rfl : y8 = .bool true := hdep 8 (by omega) (by kernel_rfl)
          go_wp2
          exact ⟨rfl, _, rfl, Below.refl _ _, rfl⟩
        · cases ho
          obtain rfl : y9 = .pointer (some ⟨Bx, 4, none⟩) := hdep 9 (by omega) (by kernel_rfl)
          obtain rfl : y8 = .bool true := hdep 8 (by omega) (by kernel_rfl)
          have T := S.out.go hb
          have h0 := T.x4
          go_wp2
          exact ⟨rfl, _, rfl, Below.refl _ _, rfl⟩
        · cases ho
          obtain rfl : y10 = .int .i64 2 := hdep 10 (by omega) (by kernel_rfl)
          obtain rfl : y8 = .bool true := hdep 8 (by omega) (by kernel_rfl)
          go_wp2
          exact ⟨rfl, _, rfl, Below.refl _ _, rfl⟩
        · cases ho
          obtain rfl : y8 = .bool true := hdep 8 (by omega) (by kernel_rfl)
          obtain rfl : y11 = .bool true := hdep 11 (by omega) (by kernel_rfl)
          go_wp2
          exact ⟨rfl, _, rfl, Below.refl _ _, rfl⟩
        · cases ho
          obtain rfl : y12 = .bool true := hdep 12 (by omega) (by kernel_rfl)
          go_wp2
          exact ⟨rfl, _, rfl, Below.refl _ _, rfl⟩
        · cases ho
          obtain rfl : y13 = .bool true := hdep 13 (by omega) (by kernel_rfl)
          go_wp2
          exact ⟨rfl, _, rfl, Below.refl _ _, rfl⟩
        · cases ho
          obtain rfl : y14 = .pointer (some ⟨Bx, 4, none⟩) := hdep 14 (by omega) (by kernel_rfl)
          obtain rfl : y13 = .bool true := hdep 13 (by omega) (by kernel_rfl)
          have T := S.out.go hb
          have h0 := T.x4
          go_wp2
          exact ⟨rfl, _, rfl, Below.refl _ _, rfl⟩
        · cases ho
          obtain rfl : y13 = .bool true := hdep 13 (by omega) (by kernel_rfl)
          have T := S.out.go hb
          have h0 := T.cu
          go_wp2
          exact ⟨rfl, _, rfl, Below.refl _ _, rfl⟩
        · cases ho
          obtain rfl : y16 = .pointer (some ⟨U, 0, none⟩) := hdep 16 (by omega) (by kernel_rfl)
          obtain rfl : y13 = .bool true := hdep 13 (by omega) (by kernel_rfl)
          go_wp2
          exact ⟨rfl, _, rfl, Below.refl _ _, rfl⟩
        · cases ho
          obtain rfl : y17 = .pointer (some ⟨U, 0, none⟩) := hdep 17 (by omega) (by kernel_rfl)
          obtain rfl : y13 = .bool true := hdep 13 (by omega) (by kernel_rfl)
          go_wp2
          exact ⟨rfl, _, rfl, Below.refl _ _, rfl⟩
        · cases ho
          obtain rfl : y18 = .pointer (some ⟨U, 0, none⟩) := hdep 18 (by omega) (by kernel_rfl)
          obtain rfl : y13 = .bool true := hdep 13 (by omega) (by kernel_rfl)
          have T := S.out.go hb
          have h0 := T.u0
          go_wp2
          exact ⟨rfl, _, rfl, Below.refl _ _, rfl⟩
        · cases ho
          obtain rfl : y13 = .bool true := hdep 13 (by omega) (by kernel_rfl)
          go_wp2
          exact ⟨rfl, _, rfl, Below.refl _ _, rfl⟩
        · cases ho
          obtain rfl : y20 = .pointer (some ⟨Bx, 3, none⟩) := hdep 20 (by omega) (by kernel_rfl)
          obtain rfl : y13 = .bool true := hdep 13 (by omega) (by kernel_rfl)
          have T := S.out.go hb
          have h0 := T.x3
          go_wp2
          exact ⟨rfl, _, rfl, Below.refl _ _, rfl⟩
        · cases ho
          obtain rfl : y19 = .slice (some ⟨X, 0, none⟩) 1 1 := hdep 19 (by omega) (by kernel_rfl)
          obtain rfl : y21 = .int .i64 0 := hdep 21 (by omega) (by kernel_rfl)
          obtain rfl : y13 = .bool true := hdep 13 (by omega) (by kernel_rfl)
          go_wp2
          exact ⟨rfl, _, rfl, Below.refl _ _, rfl⟩
        · cases ho
          obtain rfl : y22 = .pointer (some ⟨X, 0, none⟩) := hdep 22 (by omega) (by kernel_rfl)
          obtain rfl : y13 = .bool true := hdep 13 (by omega) (by kernel_rfl)
          go_wp2
          exact ⟨rfl, _, rfl, Below.refl _ _, rfl⟩
        · cases ho
          obtain rfl : y23 = .pointer (some ⟨X, 0, none⟩) := hdep 23 (by omega) (by kernel_rfl)
          obtain rfl : y13 = .bool true := hdep 13 (by omega) (by kernel_rfl)
          have T := S.out.go hb
          have h0 := T.t0
          go_wp2
          exact ⟨rfl, _, rfl, Below.refl _ _, rfl⟩
        · cases ho
          obtain rfl : y24 = .slice (some ⟨Y, 0, none⟩) 4 4 := hdep 24 (by omega) (by kernel_rfl)
          obtain rfl : y13 = .bool true := hdep 13 (by omega) (by kernel_rfl)
          go_wp2
          exact ⟨rfl, _, rfl, Below.refl _ _, rfl⟩
        · cases ho
          obtain rfl : y15 = .int .i64 2 := hdep 15 (by omega) (by kernel_rfl)
          obtain rfl : y25 = .int .i64 4 := hdep 25 (by omega) (by kernel_rfl)
          obtain rfl : y13 = .bool true := hdep 13 (by omega) (by kernel_rfl)
          go_wp2
          exact ⟨rfl, _, rfl, Below.refl _ _, rfl⟩
        · cases ho
          obtain rfl : y13 = .bool true := hdep 13 (by omega) (by kernel_rfl)
          obtain rfl : y26 = .bool true := hdep 26 (by omega) (by kernel_rfl)
          go_wp2
          exact ⟨rfl, _, rfl, Below.refl _ _, rfl⟩
      · intro ys W hys hb hall
        obtain ⟨y0, y1, y2, y3, y4, y5, y6, y7, y8, y9, y10, y11, y12, y13, y14, y15, y16, y17, y18, y19, y20, y21, y22, y23, y24, y25, y26, y27, rfl⟩ := list28 hys
        simp only [setM, List.setIfInBounds_toArray, List.set_cons_zero, List.set_cons_succ]
        obtain rfl : y27 = .bool true := hall 27 (by omega)
        clear hall
        simp only [List.drop_succ_cons, List.drop_zero]
        replace S := Lib.hid (S.out.go hb)
        clear hb
        generalize W = W1 at *
        go_wp2
        go_ret
        exact ⟨rfl, S.out.g, ⟨_, by omega, S.out.us⟩, S.out.tr⟩
end Go.Proofs.YtajkdllakleakaaGreatDoor
