/- Chapter 16: values at the nodes of the example (printed by gen_val.py). -/
import Derived.Test.YtajkdllakleakaaGreatDoorM11
import Derived.Test.YtajkdllakleakaaGreatDoorMTv
namespace Go.Proofs.YtajkdllakleakaaGreatDoor
open Go.RowKit
set_option linter.unusedVariables false
set_option linter.unusedSimpArgs false

theorem info_atm : (Tryz.prog.info? 24).map (fun i => (i.zero, i.size, i.bytes)) = some (some (.agg #[.int .i64 0, .string { data := #[] }]), 2, 24) := by kernel_rfl
def OwnA (W : World) (base : Nat) (v : Value) (n : Nat) (xs : List Value) : Prop := W.ownsRow base 24 2 v n xs
theorem OwnA.nil (W : World) (base : Nat) : OwnA W base (.slice none 0 0) 0 [] := World.ownsRow_nil _ _ _ _
theorem OwnA.below {W W' : World} {base : Nat} {v : Value} {n : Nat} {xs : List Value} (h : OwnA W base v n xs) (hb : Below W.heap.size W W') : OwnA W' base v n xs := by
  refine ⟨h.1, ?_⟩
  rcases h.2 with h1 | ⟨g, cap, cur, rfl, h2, h3, h4⟩
  · exact .inl h1
  · exact .inr ⟨g, cap, cur, rfl, h2, (hb.block g (lt_heap h3)).trans h3, h4⟩
theorem appA {ops : Array Oper} {rest : List Oper} {o : Oper} {a : Act} {Q : Exit → Act → World → Prop} {W : World} (base : Nat) (hgd : o.guard = none) (s x : Operand)
    (ho : o.op = .call { callee := .builtin .append, args := #[s, x], argTypes := #[51, 51] })
    (v : Value) (n : Nat) (xs : List Value) (hs : a.eval s = v) (k : Int) (tx : ByteArray) (B : Nat) (hB : W.heap.size = B) (hx : a.eval x = .slice (some ⟨B, 0, none⟩) 1 1)
    (HO : OwnA W base v n xs) (hbase : base ≤ W.heap.size) (hl : n + 1 ≤ 1000000)
    (h : ∀ g cap w1, OwnA w1 base (.slice (some ⟨g, 0, none⟩) (n + 1) cap) (n + 1) (xs ++ [.int .i64 k, .string tx]) → W.grownBy w1 v.ownBlock → (∀ k, g = k → v.ownBlock = some k ∨ W.heap.size ≤ k) → W.heap.size < w1.heap.size →
      wpList Tryz.prog ops Q rest (a.put o.dst (.slice (some ⟨g, 0, none⟩) (n + 1) cap)) w1) :
    wpList Tryz.prog ops Q (o :: rest) a (W.alloc (.cells #[.int .i64 k, .string tx] 24)) := by
  obtain ⟨i0, hi, hz0, hz1, hz2⟩ := info_parts info_atm
  subst hB
  refine wpList_append_lies _ hgd s x 51 ho base 24 i0 _ 2 24 Tryz.underlying51 hi hz0 hz1 hz2 rfl (by decide) v n xs hs (World.ownsRow.alloc HO _) ⟨W.heap.size, 0, none⟩ 1 1 [.int .i64 k, .string tx] hx rfl
    (World.news_of_block (cs := #[.int .i64 k, .string tx]) (t := 24) (fr := (0, 0)) (heap_alloc_new W _)) ?_ (by decide) (by simp only [maxLen]; omega) (by omega) (by simp; omega) (W.heap.size + 1) (by simp) ?_
  · intro u hu
    simp only [List.mem_cons, List.not_mem_nil, or_false] at hu
    rcases hu with rfl | rfl <;> rfl
  · intro g cap w1 ho hg hw hlt
    refine h g cap w1 ho ((World.grownBy_alloc W _ _).trans hg) (fun k hk => ?_) (by have := hg.size; simp at this; omega)
    subst hk
    rcases hw with hw | hw
    · exact .inl hw
    · right; omega
theorem own_ge {W : World} {base : Nat} {v : Value} {n : Nat} {xs : List Value} (h : OwnA W base v n xs) {k : Nat} (hk : v.ownBlock = some k) : base ≤ k := by
  rcases h.2 with ⟨rfl, _⟩ | ⟨g, cap, cur, rfl, h2, _⟩
  · cases hk
  · cases hk; exact h2
/-- The state of values. -/
structure VaS (w W : World) (U M X Y L : Nat) : Prop where
  b : Below w.heap.size w W
  u : W.heap[U]? = some (.cells #[trV X, .map (some M)] 49 (0, 0))
  t : Tr W X Y
  l : W.heap[L]? = some (.cells (twoC (nodeR 1) (nodeR 2)) 29 (0, 0))
  lt : U < w.heap.size ∧ X < w.heap.size ∧ Y < w.heap.size ∧ L < w.heap.size
theorem VaS.go {w W W' : World} {U M X Y L : Nat} (h : VaS w W U M X Y L) (hb : Below W.heap.size W W') : VaS w W' U M X Y L :=
  ⟨h.b.trans (hb.mono h.b.size), (hb.block _ (lt_heap h.u)).trans h.u, h.t.below hb, (hb.block _ (lt_heap h.l)).trans h.l, h.lt⟩
theorem VaS.low {w W W' : World} {U M X Y L : Nat} (h : VaS w W U M X Y L) (hb : Below w.heap.size W W') : VaS w W' U M X Y L :=
  ⟨h.b.trans hb, (hb.block _ h.lt.1).trans h.u, ⟨(hb.block _ h.lt.2.1).trans h.t.x, (hb.block _ h.lt.2.2.1).trans h.t.y⟩, (hb.block _ h.lt.2.2.2).trans h.l, h.lt⟩
theorem VaS.u0 {w W : World} {U M X Y L : Nat} (h : VaS w W U M X Y L) : W.cell? ⟨U, 0, none⟩ = some (.slice (some ⟨X, 0, none⟩) 1 1) := cell_of_row W U 0 _ _ _ h.u
theorem VaS.t0 {w W : World} {U M X Y L : Nat} (h : VaS w W U M X Y L) : W.cell? ⟨X, 0, none⟩ = some (.slice (some ⟨Y, 0, none⟩) 4 4) := cell_of_row W X 0 _ _ _ h.t.x
def boxN (x : Int) : Array Value := #[.int .i64 1, .int .i64 0, .string eS, .int .i64 0, .int .i64 x, .slice none 0 0, .slice none 0 0, .pointer none]
theorem box3 {W : World} {B : Nat} {x : Int} (h : W.heap[B]? = some (.cells (boxN x) 29 (0, 0))) : W.cell? ⟨B, 3, none⟩ = some (.int .i64 0) := cell_of_row W B 3 _ _ _ h
theorem box4 {W : World} {B : Nat} {x : Int} (h : W.heap[B]? = some (.cells (boxN x) 29 (0, 0))) : W.cell? ⟨B, 4, none⟩ = some (.int .i64 x) := cell_of_row W B 4 _ _ _ h
/-- A new box for an atom. -/
def NewA (B : Nat) (v : Value) (w : World) : Prop := ∃ b, v = .pointer (some ⟨b, 0, none⟩) ∧ w.heap[b]? = some (.cells #[.int .i64 0, .string eS] 24 (0, 0)) ∧ B ≤ b
theorem NewA.mono {B : Nat} {v : Value} {w w' : World} (hb : Below w.heap.size w w') (h : NewA B v w) : NewA B v w' := by
  obtain ⟨b, e, h1, h2⟩ := h
  exact ⟨b, e, (hb.block b (lt_heap h1)).trans h1, h2⟩
/-- Between two rounds: what has been added. -/
def VaV (w W : World) (k : Nat) (v : Value) : Prop := match k with
  | 0 => v = .slice none 0 0
  | 1 => ∃ g cap, v = .slice (some ⟨g, 0, none⟩) 1 cap ∧ OwnA W w.heap.size v 1 [.int .i64 0, .string wS]
  | _ => ∃ g cap, v = .slice (some ⟨g, 0, none⟩) 2 cap ∧ OwnA W w.heap.size v 2 [.int .i64 0, .string wS, .int .i64 0, .string oS]
theorem list13v {l : List Value} (h : l.length = 13) : ∃ y0 y1 y2 y3 y4 y5 y6 y7 y8 y9 y10 y11 y12, l = [y0, y1, y2, y3, y4, y5, y6, y7, y8, y9, y10, y11, y12] := by
  match l, h with
  | y0 :: y1 :: y2 :: y3 :: y4 :: y5 :: y6 :: y7 :: y8 :: y9 :: y10 :: y11 :: y12 :: [], _ => exact ⟨y0, y1, y2, y3, y4, y5, y6, y7, y8, y9, y10, y11, y12, rfl⟩
theorem list14v {l : List Value} (h : l.length = 14) : ∃ y0 y1 y2 y3 y4 y5 y6 y7 y8 y9 y10 y11 y12 y13, l = [y0, y1, y2, y3, y4, y5, y6, y7, y8, y9, y10, y11, y12, y13] := by
  match l, h with
  | y0 :: y1 :: y2 :: y3 :: y4 :: y5 :: y6 :: y7 :: y8 :: y9 :: y10 :: y11 :: y12 :: y13 :: [], _ => exact ⟨y0, y1, y2, y3, y4, y5, y6, y7, y8, y9, y10, y11, y12, y13, rfl⟩
def va1 (W0 : Nat) (U X Y B : Nat) : Nat → Value → World → Prop
  | 0 => fun v _ => v = .pointer (some ⟨U, 0, none⟩)
  | 1 => fun v _ => v = .pointer (some ⟨U, 0, none⟩)
  | 2 => fun v _ => v = .pointer (some ⟨U, 0, none⟩)
  | 3 => fun v _ => v = .slice (some ⟨X, 0, none⟩) 1 1
  | 4 => fun v _ => v = .pointer (some ⟨B, 3, none⟩)
  | 5 => fun v _ => v = .int .i64 0
  | 6 => fun v _ => v = .pointer (some ⟨X, 0, none⟩)
  | 7 => fun v _ => v = .pointer (some ⟨X, 0, none⟩)
  | 8 => fun v _ => v = .slice (some ⟨Y, 0, none⟩) 4 4
  | 9 => fun v _ => v = .pointer (some ⟨B, 4, none⟩)
  | 10 => fun v _ => v = .int .i64 1
  | 11 => fun v _ => v = .pointer (some ⟨Y, 4, none⟩)
  | 12 => fun v _ => v = .agg #[.int .i64 1, .string aS, .string eS, .int .i64 0]
  | 13 => NewN W0
  | _ => fun _ _ => True
theorem va1m (W0 U X Y B : Nat) (jx : Nat) (v : Value) (w w' : World) (hb : Below w.heap.size w w') (h : va1 W0 U X Y B jx v w) : va1 W0 U X Y B jx v w' := by
  unfold va1 at h ⊢
  split at h
  all_goals first | exact h | exact NewN.mono hb h | trivial
def va2 (W0 : Nat) (U X Y B : Nat) : Nat → Value → World → Prop
  | 0 => fun v _ => v = .pointer (some ⟨U, 0, none⟩)
  | 1 => fun v _ => v = .pointer (some ⟨U, 0, none⟩)
  | 2 => fun v _ => v = .pointer (some ⟨U, 0, none⟩)
  | 3 => fun v _ => v = .slice (some ⟨X, 0, none⟩) 1 1
  | 4 => fun v _ => v = .pointer (some ⟨B, 3, none⟩)
  | 5 => fun v _ => v = .int .i64 0
  | 6 => fun v _ => v = .pointer (some ⟨X, 0, none⟩)
  | 7 => fun v _ => v = .agg #[.slice (some ⟨Y, 0, none⟩) 4 4]
  | 8 => fun v _ => v = .pointer (some ⟨B, 4, none⟩)
  | 9 => fun v _ => v = .int .i64 1
  | 10 => fun v _ => v = .string wS
  | 11 => fun v _ => v = .agg #[.int .i64 0, .string wS]
  | 12 => NewA W0
  | _ => fun _ _ => True
theorem va2m (W0 U X Y B : Nat) (jx : Nat) (v : Value) (w w' : World) (hb : Below w.heap.size w w') (h : va2 W0 U X Y B jx v w) : va2 W0 U X Y B jx v w' := by
  unfold va2 at h ⊢
  split at h
  all_goals first | exact h | exact NewA.mono hb h | trivial
def va3 (W0 : Nat) (U X Y B : Nat) : Nat → Value → World → Prop
  | 0 => fun v _ => v = .pointer (some ⟨U, 0, none⟩)
  | 1 => fun v _ => v = .pointer (some ⟨U, 0, none⟩)
  | 2 => fun v _ => v = .pointer (some ⟨U, 0, none⟩)
  | 3 => fun v _ => v = .slice (some ⟨X, 0, none⟩) 1 1
  | 4 => fun v _ => v = .pointer (some ⟨B, 3, none⟩)
  | 5 => fun v _ => v = .int .i64 0
  | 6 => fun v _ => v = .pointer (some ⟨X, 0, none⟩)
  | 7 => fun v _ => v = .pointer (some ⟨X, 0, none⟩)
  | 8 => fun v _ => v = .slice (some ⟨Y, 0, none⟩) 4 4
  | 9 => fun v _ => v = .pointer (some ⟨B, 4, none⟩)
  | 10 => fun v _ => v = .int .i64 2
  | 11 => fun v _ => v = .pointer (some ⟨Y, 8, none⟩)
  | 12 => fun v _ => v = .agg #[.int .i64 2, .string xS, .string oS, .int .i64 1]
  | 13 => NewN W0
  | _ => fun _ _ => True
theorem va3m (W0 U X Y B : Nat) (jx : Nat) (v : Value) (w w' : World) (hb : Below w.heap.size w w') (h : va3 W0 U X Y B jx v w) : va3 W0 U X Y B jx v w' := by
  unfold va3 at h ⊢
  split at h
  all_goals first | exact h | exact NewN.mono hb h | trivial
def va4 (W0 : Nat) (U X Y B : Nat) : Nat → Value → World → Prop
  | 0 => fun v _ => v = .pointer (some ⟨U, 0, none⟩)
  | 1 => fun v _ => v = .pointer (some ⟨U, 0, none⟩)
  | 2 => fun v _ => v = .pointer (some ⟨U, 0, none⟩)
  | 3 => fun v _ => v = .slice (some ⟨X, 0, none⟩) 1 1
  | 4 => fun v _ => v = .pointer (some ⟨B, 3, none⟩)
  | 5 => fun v _ => v = .int .i64 0
  | 6 => fun v _ => v = .pointer (some ⟨X, 0, none⟩)
  | 7 => fun v _ => v = .agg #[.slice (some ⟨Y, 0, none⟩) 4 4]
  | 8 => fun v _ => v = .pointer (some ⟨B, 4, none⟩)
  | 9 => fun v _ => v = .int .i64 2
  | 10 => fun v _ => v = .string oS
  | 11 => fun v _ => v = .agg #[.int .i64 0, .string oS]
  | 12 => NewA W0
  | _ => fun _ _ => True
theorem va4m (W0 U X Y B : Nat) (jx : Nat) (v : Value) (w w' : World) (hb : Below w.heap.size w w') (h : va4 W0 U X Y B jx v w) : va4 W0 U X Y B jx v w' := by
  unfold va4 at h ⊢
  split at h
  all_goals first | exact h | exact NewA.mono hb h | trivial
set_option maxRecDepth 100000 in
set_option maxHeartbeats 8000000 in
theorem values_ex (U M X Y L : Nat) (w : World) (hS : VaS w w U M X Y L) :
    Calls Tryz.prog 12 #[.pointer (some ⟨U, 0, none⟩), .slice (some ⟨L, 0, none⟩) 2 2, .slice none 0 0] w fun e w' => ∃ v, e = .returned (.tuple #[v, .int .i64 0]) ∧ VaV w w' 2 v ∧ Below w.heap.size w w' := by
  have S0 := Lib.hid hS
  have V0 : Hid (VaV w w 0 (.slice none 0 0)) := Lib.hid rfl
  clear hS
  go_enter Tryz.func12, Tryz.ntmps12
  go_wp2
  go_loopw [2, 9, 18] (fun v lg i wr => ∃ (k : Nat) (q : Value), k ≤ 2 ∧ i = .int .i64 k ∧ q = v ∧ lg = .bool false ∧ Hid (VaS w wr U M X Y L) ∧ Hid (VaV w wr k q)) (fun _ _ i _ => 2 - (intOf i).toNat)
  case atStart => exact ⟨0, _, by omega, rfl, rfl, rfl, S0, V0⟩
  case round =>
    obtain ⟨k, v, hk, rfl, rfl, rfl, S, V⟩ := hrel
    clear S0 V0
    have hk' : k = 0 ∨ k = 1 ∨ k = 2 := by omega
    rcases hk' with rfl | rfl | rfl
    · -- the first node
      obtain rfl : v = .slice none 0 0 := V.out
      replace V := Lib.hid (OwnA.nil wr w.heap.size)
      have l0 : ∀ j, wr.cell? ⟨L, 0 + j, none⟩ = (twoC (nodeR 1) (nodeR 2))[0 + j]? := fun j => cell_of_row wr L (0 + j) _ _ _ S.out.l
      have c0 : wr.cell? ⟨L, 0, none⟩ = some (.int .i64 1) := l0 0
      have c1 : wr.cell? ⟨L, 1, none⟩ = some (.int .i64 0) := l0 1
      have c2 : wr.cell? ⟨L, 2, none⟩ = some (.string eS) := l0 2
      have c3 : wr.cell? ⟨L, 3, none⟩ = some (.int .i64 0) := l0 3
      have c4 : wr.cell? ⟨L, 4, none⟩ = some (.int .i64 1) := l0 4
      have c5 : wr.cell? ⟨L, 5, none⟩ = some (.slice none 0 0) := l0 5
      have c6 : wr.cell? ⟨L, 6, none⟩ = some (.slice none 0 0) := l0 6
      have c7 : wr.cell? ⟨L, 7, none⟩ = some (.pointer none) := l0 7
      clear l0
      go_wp2_with fail
      obtain ⟨W0, hW0⟩ : ∃ W0, wr.alloc (.cells #[.int .i64 1, .int .i64 0, .string eS, .int .i64 0, .int .i64 1, .slice none 0 0, .slice none 0 0, .pointer none] 29) = W0 := ⟨_, rfl⟩
      have hbw : Below wr.heap.size wr W0 := hW0 ▸ box1 _ _ _
      have HX : Hid (W0.heap[wr.heap.size]? = some (.cells (boxN 1) 29 (0, 0))) := Lib.hid (hW0 ▸ hp_new rfl)
      replace S := Lib.hid (S.out.go hbw)
      replace V := Lib.hid (OwnA.below V.out hbw)
      try simp only [nodeR] at *
      rw [hW0]
      have hwz : w.heap.size ≤ W0.heap.size := S.out.b.size
      clear hW0 hbw c0 c1 c2 c3 c4 c5 c6 c7
      generalize wr.heap.size = B at *
      obtain ⟨wz, hwz2⟩ : ∃ wz, W0.heap.size = wz := ⟨_, rfl⟩
      refine wp_region_drawn (by kernel_rfl) 14 105 [33, 34, 35, 36, 37, 38, 39, 40, 41, 42, 43, 44, 45, 12] (va1 wz U X Y B) rfl (by kernel_rfl) (va1m _ _ _ _ _) ?_ ?_
      · intro i o hi ho ys W hys hb hdep
        obtain ⟨y0, y1, y2, y3, y4, y5, y6, y7, y8, y9, y10, y11, y12, y13, rfl⟩ := list14v hys
        have hi' : i = 0 ∨ i = 1 ∨ i = 2 ∨ i = 3 ∨ i = 4 ∨ i = 5 ∨ i = 6 ∨ i = 7 ∨ i = 8 ∨ i = 9 ∨ i = 10 ∨ i = 11 ∨ i = 12 ∨ i = 13 := by omega
        simp only [setM, List.setIfInBounds_toArray, List.set_cons_zero, List.set_cons_succ]
        rcases hi' with rfl | rfl | rfl | rfl | rfl | rfl | rfl | rfl | rfl | rfl | rfl | rfl | rfl | rfl
        · cases ho
          go_wp2
          exact ⟨rfl, _, rfl, Below.refl _ _, rfl⟩
        · cases ho
          obtain rfl : y0 = .pointer (some ⟨U, 0, none⟩) := hdep 0 (by omega) (by kernel_rfl)
          go_wp2
          exact ⟨rfl, _, rfl, Below.refl _ _, rfl⟩
        · cases ho
          obtain rfl : y1 = .pointer (some ⟨U, 0, none⟩) := hdep 1 (by omega) (by kernel_rfl)
          go_wp2
          exact ⟨rfl, _, rfl, Below.refl _ _, rfl⟩
        · cases ho
          obtain rfl : y2 = .pointer (some ⟨U, 0, none⟩) := hdep 2 (by omega) (by kernel_rfl)
          have T := S.out.go hb
          have h0 := T.u0
          go_wp2
          exact ⟨rfl, _, rfl, Below.refl _ _, rfl⟩
        · cases ho
          go_wp2
          exact ⟨rfl, _, rfl, Below.refl _ _, rfl⟩
        · cases ho
          obtain rfl : y4 = .pointer (some ⟨B, 3, none⟩) := hdep 4 (by omega) (by kernel_rfl)
          have hx := (hb.block B (lt_heap HX.out)).trans HX.out
          have h3 := box3 hx
          go_wp2
          exact ⟨rfl, _, rfl, Below.refl _ _, rfl⟩
        · cases ho
          obtain rfl : y3 = .slice (some ⟨X, 0, none⟩) 1 1 := hdep 3 (by omega) (by kernel_rfl)
          obtain rfl : y5 = .int .i64 0 := hdep 5 (by omega) (by kernel_rfl)
          go_wp2
          exact ⟨rfl, _, rfl, Below.refl _ _, rfl⟩
        · cases ho
          obtain rfl : y6 = .pointer (some ⟨X, 0, none⟩) := hdep 6 (by omega) (by kernel_rfl)
          go_wp2
          exact ⟨rfl, _, rfl, Below.refl _ _, rfl⟩
        · cases ho
          obtain rfl : y7 = .pointer (some ⟨X, 0, none⟩) := hdep 7 (by omega) (by kernel_rfl)
          have T := S.out.go hb
          have h0 := T.t0
          go_wp2
          exact ⟨rfl, _, rfl, Below.refl _ _, rfl⟩
        · cases ho
          go_wp2
          exact ⟨rfl, _, rfl, Below.refl _ _, rfl⟩
        · cases ho
          obtain rfl : y9 = .pointer (some ⟨B, 4, none⟩) := hdep 9 (by omega) (by kernel_rfl)
          have hx := (hb.block B (lt_heap HX.out)).trans HX.out
          have h4 := box4 hx
          go_wp2
          exact ⟨rfl, _, rfl, Below.refl _ _, rfl⟩
        · cases ho
          obtain rfl : y8 = .slice (some ⟨Y, 0, none⟩) 4 4 := hdep 8 (by omega) (by kernel_rfl)
          obtain rfl : y10 = .int .i64 1 := hdep 10 (by omega) (by kernel_rfl)
          go_wp2
          exact ⟨rfl, _, rfl, Below.refl _ _, rfl⟩
        · cases ho
          obtain rfl : y11 = .pointer (some ⟨Y, 4, none⟩) := hdep 11 (by omega) (by kernel_rfl)
          have n4 : W.cell? ⟨Y, 4, none⟩ = some (.int .i64 1) := nd_cell (S.out.go hb).t.y
          have n5 : W.cell? ⟨Y, 5, none⟩ = some (.string aS) := nd_cell (S.out.go hb).t.y
          have n6 : W.cell? ⟨Y, 6, none⟩ = some (.string eS) := nd_cell (S.out.go hb).t.y
          have n7 : W.cell? ⟨Y, 7, none⟩ = some (.int .i64 0) := nd_cell (S.out.go hb).t.y
          go_wp2
          exact ⟨rfl, _, rfl, Below.refl _ _, rfl⟩
        · cases ho
          go_wp2
          exact ⟨rfl, _, rfl, box1 _ _ _, _, rfl, hp_new rfl, by have := hb.size; omega⟩
      · intro ys W hys hb hall
        obtain ⟨y0, y1, y2, y3, y4, y5, y6, y7, y8, y9, y10, y11, y12, y13, rfl⟩ := list14v hys
        simp only [setM, List.setIfInBounds_toArray, List.set_cons_zero, List.set_cons_succ]
        obtain rfl : y12 = .agg #[.int .i64 1, .string aS, .string eS, .int .i64 0] := hall 12 (by omega)
        obtain ⟨b12, rfl, hz, hl⟩ : NewN wz y13 W := hall 13 (by omega)
        clear hall
        simp only [List.drop_succ_cons, List.drop_zero]
        refine wpList_putN rfl (.tmp 12) (.tmp 45) rfl rfl b12 1 aS eS 0 rfl rfl hz ?_
        have hbp := bel_row4 hb (show W0.heap.size ≤ b12 by omega) #[.int .i64 1, .string aS, .string eS, .int .i64 0]
        have HN2 := Lib.hid (setRow_heap _ _ _ #[.int .i64 1, .string aS, .string eS, .int .i64 0] _ _ hz)
        replace S := Lib.hid (S.out.go hbp)
        replace V := Lib.hid (OwnA.below V.out hbp)
        replace HX := Lib.hid ((hbp.block B (lt_heap HX.out)).trans HX.out)
        clear hb hbp hz hl
        generalize W.setRow b12 #[.int .i64 1, .string aS, .string eS, .int .i64 0] = W1 at *
        have hwz3 : w.heap.size ≤ W1.heap.size := S.out.b.size
        clear hwz2
        obtain ⟨wz, hwz2⟩ : ∃ wz, W1.heap.size = wz := ⟨_, rfl⟩
        go_wp2_with fail
        refine wp_region_drawn (by kernel_rfl) 13 105 [46, 47, 48, 49, 50, 51, 52, 53, 54, 55, 56, 57, 13] (va2 wz U X Y B) rfl (by kernel_rfl) (va2m _ _ _ _ _) ?_ ?_
        · intro i o hi ho ys W hys hb hdep
          obtain ⟨y0, y1, y2, y3, y4, y5, y6, y7, y8, y9, y10, y11, y12, rfl⟩ := list13v hys
          have hi' : i = 0 ∨ i = 1 ∨ i = 2 ∨ i = 3 ∨ i = 4 ∨ i = 5 ∨ i = 6 ∨ i = 7 ∨ i = 8 ∨ i = 9 ∨ i = 10 ∨ i = 11 ∨ i = 12 := by omega
          simp only [setM, List.setIfInBounds_toArray, List.set_cons_zero, List.set_cons_succ]
          rcases hi' with rfl | rfl | rfl | rfl | rfl | rfl | rfl | rfl | rfl | rfl | rfl | rfl | rfl
          · cases ho
            go_wp2
            exact ⟨rfl, _, rfl, Below.refl _ _, rfl⟩
          · cases ho
            obtain rfl : y0 = .pointer (some ⟨U, 0, none⟩) := hdep 0 (by omega) (by kernel_rfl)
            go_wp2
            exact ⟨rfl, _, rfl, Below.refl _ _, rfl⟩
          · cases ho
            obtain rfl : y1 = .pointer (some ⟨U, 0, none⟩) := hdep 1 (by omega) (by kernel_rfl)
            go_wp2
            exact ⟨rfl, _, rfl, Below.refl _ _, rfl⟩
          · cases ho
            obtain rfl : y2 = .pointer (some ⟨U, 0, none⟩) := hdep 2 (by omega) (by kernel_rfl)
            have T := S.out.go hb
            have h0 := T.u0
            go_wp2
            exact ⟨rfl, _, rfl, Below.refl _ _, rfl⟩
          · cases ho
            go_wp2
            exact ⟨rfl, _, rfl, Below.refl _ _, rfl⟩
          · cases ho
            obtain rfl : y4 = .pointer (some ⟨B, 3, none⟩) := hdep 4 (by omega) (by kernel_rfl)
            have hx := (hb.block B (lt_heap HX.out)).trans HX.out
            have h3 := box3 hx
            go_wp2
            exact ⟨rfl, _, rfl, Below.refl _ _, rfl⟩
          · cases ho
            obtain rfl : y3 = .slice (some ⟨X, 0, none⟩) 1 1 := hdep 3 (by omega) (by kernel_rfl)
            obtain rfl : y5 = .int .i64 0 := hdep 5 (by omega) (by kernel_rfl)
            go_wp2
            exact ⟨rfl, _, rfl, Below.refl _ _, rfl⟩
          · cases ho
            obtain rfl : y6 = .pointer (some ⟨X, 0, none⟩) := hdep 6 (by omega) (by kernel_rfl)
            have T := S.out.go hb
            have h0 := T.t0
            go_wp2
            exact ⟨rfl, _, rfl, Below.refl _ _, rfl⟩
          · cases ho
            go_wp2
            exact ⟨rfl, _, rfl, Below.refl _ _, rfl⟩
          · cases ho
            obtain rfl : y8 = .pointer (some ⟨B, 4, none⟩) := hdep 8 (by omega) (by kernel_rfl)
            have hx := (hb.block B (lt_heap HX.out)).trans HX.out
            have h4 := box4 hx
            go_wp2
            exact ⟨rfl, _, rfl, Below.refl _ _, rfl⟩
          · cases ho
            obtain rfl : y7 = .agg #[.slice (some ⟨Y, 0, none⟩) 4 4] := hdep 7 (by omega) (by kernel_rfl)
            obtain rfl : y9 = .int .i64 1 := hdep 9 (by omega) (by kernel_rfl)
            go_wp2_with fail
            refine (text1 Y _ (S.out.go hb).t.y).mono ?_
            rintro e w1 ⟨rfl, hb1⟩
            go_wp2
            exact ⟨rfl, _, rfl, hb1, rfl⟩
          · cases ho
            obtain rfl : y10 = .string wS := hdep 10 (by omega) (by kernel_rfl)
            go_wp2
            exact ⟨rfl, _, rfl, Below.refl _ _, rfl⟩
          · cases ho
            go_wp2
            exact ⟨rfl, _, rfl, box1 _ _ _, _, rfl, hp_new rfl, by have := hb.size; omega⟩
        · intro ys W hys hb hall
          obtain ⟨y0, y1, y2, y3, y4, y5, y6, y7, y8, y9, y10, y11, y12, rfl⟩ := list13v hys
          simp only [setM, List.setIfInBounds_toArray, List.set_cons_zero, List.set_cons_succ]
          obtain rfl : y11 = .agg #[.int .i64 0, .string wS] := hall 11 (by omega)
          obtain ⟨b13, rfl, hz, hl⟩ : NewA wz y12 W := hall 12 (by omega)
          clear hall
          simp only [List.drop_succ_cons, List.drop_zero]
          have z0 : W.cell? ⟨b13, 0, none⟩ = some (.int .i64 0) := cell_of_row _ _ 0 _ _ _ hz
          have z1 : W.cell? ⟨b13, 1, none⟩ = some (.string eS) := cell_of_row _ _ 1 _ _ _ hz
          have fz := fun i => frz_of hz i
          have hb3 := (hb.setCell (p := ⟨b13, 0, none⟩) (by show _ ≤ b13; omega) (.int .i64 0)).setCell (p := ⟨b13, 1, none⟩) (by show _ ≤ b13; omega) (.string wS)
          have HA := Lib.hid (set_same (i := 1) (set_same (i := 0) hz (.int .i64 0)) (.string wS))
          go_upto_region 13 with fail
          generalize ((W.setCell ⟨b13, 0, none⟩ (.int .i64 0)).setCell ⟨b13, 1, none⟩ (.string wS)) = W3 at *
          replace S := Lib.hid (S.out.go hb3)
          replace V := Lib.hid (OwnA.below V.out hb3)
          replace HN2 := Lib.hid ((hb3.block b12 (lt_heap HN2.out)).trans HN2.out)
          clear hb hb3 z0 z1 fz hz hwz2 hwz hl HX
          obtain ⟨m0, m1, m2, m3⟩ := cells4 HN2.out
          have a0 : W3.cell? ⟨b13, 0, none⟩ = some (.int .i64 0) := cell_of_row _ _ 0 _ _ _ HA.out
          have a1 : W3.cell? ⟨b13, 1, none⟩ = some (.string wS) := cell_of_row _ _ 1 _ _ _ HA.out
          go_wp2_with (at_builtin; refine appA w.heap.size rfl (.tmp 67) (.tmp 69) rfl _ 0 [] rfl 0 wS W3.heap.size rfl rfl V.out S.out.b.size (by omega) ?_)
          intro g cap w1 ho hg _ hlt
          have hbw := VaS.low S.out ((Below.refl w.heap.size W3).grown hg S.out.b.size (fun k e => own_ge V.out (by rw [e])))
          go_wp2
          go_roundw
          case rel => exact ⟨1, _, by omega, rfl, rfl, rfl, Lib.hid hbw, Lib.hid ⟨g, cap, rfl, ho⟩⟩
          case measure => simp [intOf]
    · -- the second node
      obtain ⟨g0, cap0, rfl, hov⟩ : ∃ g cap, v = .slice (some ⟨g, 0, none⟩) 1 cap ∧ OwnA wr w.heap.size v 1 [.int .i64 0, .string wS] := V.out
      replace V := Lib.hid hov
      clear hov
      have l0 : ∀ j, wr.cell? ⟨L, 8 + j, none⟩ = (twoC (nodeR 1) (nodeR 2))[8 + j]? := fun j => cell_of_row wr L (8 + j) _ _ _ S.out.l
      have c0 : wr.cell? ⟨L, 8, none⟩ = some (.int .i64 1) := l0 0
      have c1 : wr.cell? ⟨L, 9, none⟩ = some (.int .i64 0) := l0 1
      have c2 : wr.cell? ⟨L, 10, none⟩ = some (.string eS) := l0 2
      have c3 : wr.cell? ⟨L, 11, none⟩ = some (.int .i64 0) := l0 3
      have c4 : wr.cell? ⟨L, 12, none⟩ = some (.int .i64 2) := l0 4
      have c5 : wr.cell? ⟨L, 13, none⟩ = some (.slice none 0 0) := l0 5
      have c6 : wr.cell? ⟨L, 14, none⟩ = some (.slice none 0 0) := l0 6
      have c7 : wr.cell? ⟨L, 15, none⟩ = some (.pointer none) := l0 7
      clear l0
      go_wp2_with fail
      obtain ⟨W0, hW0⟩ : ∃ W0, wr.alloc (.cells #[.int .i64 1, .int .i64 0, .string eS, .int .i64 0, .int .i64 2, .slice none 0 0, .slice none 0 0, .pointer none] 29) = W0 := ⟨_, rfl⟩
      have hbw : Below wr.heap.size wr W0 := hW0 ▸ box1 _ _ _
      have HX : Hid (W0.heap[wr.heap.size]? = some (.cells (boxN 2) 29 (0, 0))) := Lib.hid (hW0 ▸ hp_new rfl)
      replace S := Lib.hid (S.out.go hbw)
      replace V := Lib.hid (OwnA.below V.out hbw)
      try simp only [nodeR] at *
      rw [hW0]
      have hwz : w.heap.size ≤ W0.heap.size := S.out.b.size
      clear hW0 hbw c0 c1 c2 c3 c4 c5 c6 c7
      generalize wr.heap.size = B at *
      obtain ⟨wz, hwz2⟩ : ∃ wz, W0.heap.size = wz := ⟨_, rfl⟩
      refine wp_region_drawn (by kernel_rfl) 14 105 [33, 34, 35, 36, 37, 38, 39, 40, 41, 42, 43, 44, 45, 12] (va3 wz U X Y B) rfl (by kernel_rfl) (va3m _ _ _ _ _) ?_ ?_
      · intro i o hi ho ys W hys hb hdep
        obtain ⟨y0, y1, y2, y3, y4, y5, y6, y7, y8, y9, y10, y11, y12, y13, rfl⟩ := list14v hys
        have hi' : i = 0 ∨ i = 1 ∨ i = 2 ∨ i = 3 ∨ i = 4 ∨ i = 5 ∨ i = 6 ∨ i = 7 ∨ i = 8 ∨ i = 9 ∨ i = 10 ∨ i = 11 ∨ i = 12 ∨ i = 13 := by omega
        simp only [setM, List.setIfInBounds_toArray, List.set_cons_zero, List.set_cons_succ]
        rcases hi' with rfl | rfl | rfl | rfl | rfl | rfl | rfl | rfl | rfl | rfl | rfl | rfl | rfl | rfl
        · cases ho
          go_wp2
          exact ⟨rfl, _, rfl, Below.refl _ _, rfl⟩
        · cases ho
          obtain rfl : y0 = .pointer (some ⟨U, 0, none⟩) := hdep 0 (by omega) (by kernel_rfl)
          go_wp2
          exact ⟨rfl, _, rfl, Below.refl _ _, rfl⟩
        · cases ho
          obtain rfl : y1 = .pointer (some ⟨U, 0, none⟩) := hdep 1 (by omega) (by kernel_rfl)
          go_wp2
          exact ⟨rfl, _, rfl, Below.refl _ _, rfl⟩
        · cases ho
          obtain rfl : y2 = .pointer (some ⟨U, 0, none⟩) := hdep 2 (by omega) (by kernel_rfl)
          have T := S.out.go hb
          have h0 := T.u0
          go_wp2
          exact ⟨rfl, _, rfl, Below.refl _ _, rfl⟩
        · cases ho
          go_wp2
          exact ⟨rfl, _, rfl, Below.refl _ _, rfl⟩
        · cases ho
          obtain rfl : y4 = .pointer (some ⟨B, 3, none⟩) := hdep 4 (by omega) (by kernel_rfl)
          have hx := (hb.block B (lt_heap HX.out)).trans HX.out
          have h3 := box3 hx
          go_wp2
          exact ⟨rfl, _, rfl, Below.refl _ _, rfl⟩
        · cases ho
          obtain rfl : y3 = .slice (some ⟨X, 0, none⟩) 1 1 := hdep 3 (by omega) (by kernel_rfl)
          obtain rfl : y5 = .int .i64 0 := hdep 5 (by omega) (by kernel_rfl)
          go_wp2
          exact ⟨rfl, _, rfl, Below.refl _ _, rfl⟩
        · cases ho
          obtain rfl : y6 = .pointer (some ⟨X, 0, none⟩) := hdep 6 (by omega) (by kernel_rfl)
          go_wp2
          exact ⟨rfl, _, rfl, Below.refl _ _, rfl⟩
        · cases ho
          obtain rfl : y7 = .pointer (some ⟨X, 0, none⟩) := hdep 7 (by omega) (by kernel_rfl)
          have T := S.out.go hb
          have h0 := T.t0
          go_wp2
          exact ⟨rfl, _, rfl, Below.refl _ _, rfl⟩
        · cases ho
          go_wp2
          exact ⟨rfl, _, rfl, Below.refl _ _, rfl⟩
        · cases ho
          obtain rfl : y9 = .pointer (some ⟨B, 4, none⟩) := hdep 9 (by omega) (by kernel_rfl)
          have hx := (hb.block B (lt_heap HX.out)).trans HX.out
          have h4 := box4 hx
          go_wp2
          exact ⟨rfl, _, rfl, Below.refl _ _, rfl⟩
        · cases ho
          obtain rfl : y8 = .slice (some ⟨Y, 0, none⟩) 4 4 := hdep 8 (by omega) (by kernel_rfl)
          obtain rfl : y10 = .int .i64 2 := hdep 10 (by omega) (by kernel_rfl)
          go_wp2
          exact ⟨rfl, _, rfl, Below.refl _ _, rfl⟩
        · cases ho
          obtain rfl : y11 = .pointer (some ⟨Y, 8, none⟩) := hdep 11 (by omega) (by kernel_rfl)
          have n8 : W.cell? ⟨Y, 8, none⟩ = some (.int .i64 2) := nd_cell (S.out.go hb).t.y
          have n9 : W.cell? ⟨Y, 9, none⟩ = some (.string xS) := nd_cell (S.out.go hb).t.y
          have n10 : W.cell? ⟨Y, 10, none⟩ = some (.string oS) := nd_cell (S.out.go hb).t.y
          have n11 : W.cell? ⟨Y, 11, none⟩ = some (.int .i64 1) := nd_cell (S.out.go hb).t.y
          go_wp2
          exact ⟨rfl, _, rfl, Below.refl _ _, rfl⟩
        · cases ho
          go_wp2
          exact ⟨rfl, _, rfl, box1 _ _ _, _, rfl, hp_new rfl, by have := hb.size; omega⟩
      · intro ys W hys hb hall
        obtain ⟨y0, y1, y2, y3, y4, y5, y6, y7, y8, y9, y10, y11, y12, y13, rfl⟩ := list14v hys
        simp only [setM, List.setIfInBounds_toArray, List.set_cons_zero, List.set_cons_succ]
        obtain rfl : y12 = .agg #[.int .i64 2, .string xS, .string oS, .int .i64 1] := hall 12 (by omega)
        obtain ⟨b12, rfl, hz, hl⟩ : NewN wz y13 W := hall 13 (by omega)
        clear hall
        simp only [List.drop_succ_cons, List.drop_zero]
        refine wpList_putN rfl (.tmp 12) (.tmp 45) rfl rfl b12 2 xS oS 1 rfl rfl hz ?_
        have hbp := bel_row4 hb (show W0.heap.size ≤ b12 by omega) #[.int .i64 2, .string xS, .string oS, .int .i64 1]
        have HN2 := Lib.hid (setRow_heap _ _ _ #[.int .i64 2, .string xS, .string oS, .int .i64 1] _ _ hz)
        replace S := Lib.hid (S.out.go hbp)
        replace V := Lib.hid (OwnA.below V.out hbp)
        replace HX := Lib.hid ((hbp.block B (lt_heap HX.out)).trans HX.out)
        clear hb hbp hz hl
        generalize W.setRow b12 #[.int .i64 2, .string xS, .string oS, .int .i64 1] = W1 at *
        have hwz3 : w.heap.size ≤ W1.heap.size := S.out.b.size
        clear hwz2
        obtain ⟨wz, hwz2⟩ : ∃ wz, W1.heap.size = wz := ⟨_, rfl⟩
        go_wp2_with fail
        refine wp_region_drawn (by kernel_rfl) 13 105 [46, 47, 48, 49, 50, 51, 52, 53, 54, 55, 56, 57, 13] (va4 wz U X Y B) rfl (by kernel_rfl) (va4m _ _ _ _ _) ?_ ?_
        · intro i o hi ho ys W hys hb hdep
          obtain ⟨y0, y1, y2, y3, y4, y5, y6, y7, y8, y9, y10, y11, y12, rfl⟩ := list13v hys
          have hi' : i = 0 ∨ i = 1 ∨ i = 2 ∨ i = 3 ∨ i = 4 ∨ i = 5 ∨ i = 6 ∨ i = 7 ∨ i = 8 ∨ i = 9 ∨ i = 10 ∨ i = 11 ∨ i = 12 := by omega
          simp only [setM, List.setIfInBounds_toArray, List.set_cons_zero, List.set_cons_succ]
          rcases hi' with rfl | rfl | rfl | rfl | rfl | rfl | rfl | rfl | rfl | rfl | rfl | rfl | rfl
          · cases ho
            go_wp2
            exact ⟨rfl, _, rfl, Below.refl _ _, rfl⟩
          · cases ho
            obtain rfl : y0 = .pointer (some ⟨U, 0, none⟩) := hdep 0 (by omega) (by kernel_rfl)
            go_wp2
            exact ⟨rfl, _, rfl, Below.refl _ _, rfl⟩
          · cases ho
            obtain rfl : y1 = .pointer (some ⟨U, 0, none⟩) := hdep 1 (by omega) (by kernel_rfl)
            go_wp2
            exact ⟨rfl, _, rfl, Below.refl _ _, rfl⟩
          · cases ho
            obtain rfl : y2 = .pointer (some ⟨U, 0, none⟩) := hdep 2 (by omega) (by kernel_rfl)
            have T := S.out.go hb
            have h0 := T.u0
            go_wp2
            exact ⟨rfl, _, rfl, Below.refl _ _, rfl⟩
          · cases ho
            go_wp2
            exact ⟨rfl, _, rfl, Below.refl _ _, rfl⟩
          · cases ho
            obtain rfl : y4 = .pointer (some ⟨B, 3, none⟩) := hdep 4 (by omega) (by kernel_rfl)
            have hx := (hb.block B (lt_heap HX.out)).trans HX.out
            have h3 := box3 hx
            go_wp2
            exact ⟨rfl, _, rfl, Below.refl _ _, rfl⟩
          · cases ho
            obtain rfl : y3 = .slice (some ⟨X, 0, none⟩) 1 1 := hdep 3 (by omega) (by kernel_rfl)
            obtain rfl : y5 = .int .i64 0 := hdep 5 (by omega) (by kernel_rfl)
            go_wp2
            exact ⟨rfl, _, rfl, Below.refl _ _, rfl⟩
          · cases ho
            obtain rfl : y6 = .pointer (some ⟨X, 0, none⟩) := hdep 6 (by omega) (by kernel_rfl)
            have T := S.out.go hb
            have h0 := T.t0
            go_wp2
            exact ⟨rfl, _, rfl, Below.refl _ _, rfl⟩
          · cases ho
            go_wp2
            exact ⟨rfl, _, rfl, Below.refl _ _, rfl⟩
          · cases ho
            obtain rfl : y8 = .pointer (some ⟨B, 4, none⟩) := hdep 8 (by omega) (by kernel_rfl)
            have hx := (hb.block B (lt_heap HX.out)).trans HX.out
            have h4 := box4 hx
            go_wp2
            exact ⟨rfl, _, rfl, Below.refl _ _, rfl⟩
          · cases ho
            obtain rfl : y7 = .agg #[.slice (some ⟨Y, 0, none⟩) 4 4] := hdep 7 (by omega) (by kernel_rfl)
            obtain rfl : y9 = .int .i64 2 := hdep 9 (by omega) (by kernel_rfl)
            go_wp2_with fail
            refine (text2 Y _ (S.out.go hb).t.y).mono ?_
            rintro e w1 ⟨rfl, hb1⟩
            go_wp2
            exact ⟨rfl, _, rfl, hb1, rfl⟩
          · cases ho
            obtain rfl : y10 = .string oS := hdep 10 (by omega) (by kernel_rfl)
            go_wp2
            exact ⟨rfl, _, rfl, Below.refl _ _, rfl⟩
          · cases ho
            go_wp2
            exact ⟨rfl, _, rfl, box1 _ _ _, _, rfl, hp_new rfl, by have := hb.size; omega⟩
        · intro ys W hys hb hall
          obtain ⟨y0, y1, y2, y3, y4, y5, y6, y7, y8, y9, y10, y11, y12, rfl⟩ := list13v hys
          simp only [setM, List.setIfInBounds_toArray, List.set_cons_zero, List.set_cons_succ]
          obtain rfl : y11 = .agg #[.int .i64 0, .string oS] := hall 11 (by omega)
          obtain ⟨b13, rfl, hz, hl⟩ : NewA wz y12 W := hall 12 (by omega)
          clear hall
          simp only [List.drop_succ_cons, List.drop_zero]
          have z0 : W.cell? ⟨b13, 0, none⟩ = some (.int .i64 0) := cell_of_row _ _ 0 _ _ _ hz
          have z1 : W.cell? ⟨b13, 1, none⟩ = some (.string eS) := cell_of_row _ _ 1 _ _ _ hz
          have fz := fun i => frz_of hz i
          have hb3 := (hb.setCell (p := ⟨b13, 0, none⟩) (by show _ ≤ b13; omega) (.int .i64 0)).setCell (p := ⟨b13, 1, none⟩) (by show _ ≤ b13; omega) (.string oS)
          have HA := Lib.hid (set_same (i := 1) (set_same (i := 0) hz (.int .i64 0)) (.string oS))
          go_upto_region 13 with fail
          generalize ((W.setCell ⟨b13, 0, none⟩ (.int .i64 0)).setCell ⟨b13, 1, none⟩ (.string oS)) = W3 at *
          replace S := Lib.hid (S.out.go hb3)
          replace V := Lib.hid (OwnA.below V.out hb3)
          replace HN2 := Lib.hid ((hb3.block b12 (lt_heap HN2.out)).trans HN2.out)
          clear hb hb3 z0 z1 fz hz hwz2 hwz hl HX
          obtain ⟨m0, m1, m2, m3⟩ := cells4 HN2.out
          have a0 : W3.cell? ⟨b13, 0, none⟩ = some (.int .i64 0) := cell_of_row _ _ 0 _ _ _ HA.out
          have a1 : W3.cell? ⟨b13, 1, none⟩ = some (.string oS) := cell_of_row _ _ 1 _ _ _ HA.out
          go_wp2_with (at_builtin; refine appA w.heap.size rfl (.tmp 67) (.tmp 69) rfl _ 1 [.int .i64 0, .string wS] rfl 0 oS W3.heap.size rfl rfl V.out S.out.b.size (by omega) ?_)
          intro g cap w1 ho hg _ hlt
          have hbw := VaS.low S.out ((Below.refl w.heap.size W3).grown hg S.out.b.size (fun k e => own_ge V.out (by rw [e])))
          go_wp2
          go_roundw
          case rel => exact ⟨2, _, by omega, rfl, rfl, rfl, Lib.hid hbw, Lib.hid ⟨g, cap, rfl, ho⟩⟩
          case measure => simp [intOf]
    · obtain ⟨g0, cap0, rfl, hov⟩ : ∃ g cap, v = .slice (some ⟨g, 0, none⟩) 2 cap ∧ OwnA wr w.heap.size v 2 [.int .i64 0, .string wS, .int .i64 0, .string oS] := V.out
      have HV := Lib.hid hov
      clear hov V
      go_wp2
      go_ret2
      exact ⟨_, rfl, ⟨_, _, rfl, HV.out⟩, S.out.b⟩
end Go.Proofs.YtajkdllakleakaaGreatDoor
