/- The law MapsLong: always true (printed by gen_lgb.py). -/
import Derived.Test.YtahidclhplmkiaaGreatDoorMLga
import Derived.Test.YtahidclhplmkiaaGreatDoorM14
namespace Go.Proofs.YtahidclhplmkiaaGreatDoor
open Go.RowKit Go.WideMaps
set_option linter.unusedVariables false
set_option linter.unusedSimpArgs false

def ibx (r : IRow) : Obj := .cells #[.int .i64 r.k, .int .i64 r.ak, .string r.tx, .int .i64 r.tr, .int .i64 r.nd, r.ps, r.ms, r.fn] 30
/-- A box that holds an item. -/
def BI (W : World) (X : Nat) (r : IRow) : Prop := W.heap[X]? = some (ibx r)
theorem BI.go {W W' : World} {X : Nat} {r : IRow} (h : BI W X r) (hb : Below W.heap.size W W') : BI W' X r := (hb.block X (lt_of_block h)).trans h
theorem lite_one {W : World} {p : PRow} : RdP (W.alloc (.cells #[.int .i64 p.ak, .string p.tx, p.v] 33)) [p] (.slice (some ⟨W.heap.size, 0, none⟩) 1 1) :=
  rows_of_own (rows := [p].map PRow.cells) (World.ownsRow_lit (base := 0) (e := 33) (size := 3) W #[.int .i64 p.ak, .string p.tx, p.v] 1 (Nat.zero_le _) (by simp [maxLen]) rfl) rfl (cells3 _) (by simp [maxLen])
theorem lite_two {W : World} {x y : IRow} : RdI (W.alloc (.cells #[.int .i64 x.k, .int .i64 x.ak, .string x.tx, .int .i64 x.tr, .int .i64 x.nd, x.ps, x.ms, x.fn, .int .i64 y.k, .int .i64 y.ak, .string y.tx, .int .i64 y.tr, .int .i64 y.nd, y.ps, y.ms, y.fn] 30)) [x, y] (.slice (some ⟨W.heap.size, 0, none⟩) 2 2) :=
  rows_of_own (rows := [x, y].map IRow.cells) (World.ownsRow_lit (base := 0) (e := 30) (size := 8) W #[.int .i64 x.k, .int .i64 x.ak, .string x.tx, .int .i64 x.tr, .int .i64 x.nd, x.ps, x.ms, x.fn, .int .i64 y.k, .int .i64 y.ak, .string y.tx, .int .i64 y.tr, .int .i64 y.nd, y.ps, y.ms, y.fn] 2 (Nat.zero_le _) (by simp [maxLen]) rfl) rfl (cells_all8 _) (by simp [maxLen])
theorem lite_mem {W : World} {v : Value} : RdM (W.alloc (.cells #[v] 22)) [v] (.slice (some ⟨W.heap.size, 0, none⟩) 1 1) :=
  OwnM.reads (base := 0) (World.ownsRow_lit (base := 0) (e := 22) (size := 1) W #[v] 1 (Nat.zero_le _) (by simp [maxLen]) rfl) (by simp [maxLen])
structure LgS (w W : World) (n L M : Nat) : Prop where
  b : Below w.heap.size w W
  i : RdI W (List.replicate n z0) (.slice (some ⟨L, 0, none⟩) n n)
  m : RdM W (List.replicate n nilS) (.slice (some ⟨M, 0, none⟩) n n)
theorem LgS.go {w W W' : World} {n L M : Nat} (h : LgS w W n L M) (hb : Below W.heap.size W W') : LgS w W' n L M := ⟨h.b.trans (hb.mono h.b.size), RdRows.below h.i hb, RdRows.below h.m hb⟩
/-- What stands when the two maps are made. -/
structure LgT (w W : World) (n L M B7 B8 B9 : Nat) (u8 u9 : Value) : Prop where
  s : LgS w W n L M
  x7 : BI W B7 (aR (.slice (some ⟨M, 0, none⟩) n n))
  x8 : BI W B8 (mapR u8)
  p8 : RdP W [lgP (some ⟨L, 0, none⟩) (n - 1) n] u8
  x9 : BI W B9 (mapR u9)
  p9 : RdP W [lgP (some ⟨L, 0, none⟩) 1 n] u9
theorem LgT.go {w W W' : World} {n L M B7 B8 B9 : Nat} {u8 u9 : Value} (h : LgT w W n L M B7 B8 B9 u8 u9) (hb : Below W.heap.size W W') : LgT w W' n L M B7 B8 B9 u8 u9 := ⟨h.s.go hb, h.x7.go hb, h.x8.go hb, RdRows.below h.p8 hb, h.x9.go hb, RdRows.below h.p9 hb⟩
/-- A new box. -/
def NewB (B : Nat) (v : Value) (w : World) : Prop := ∃ b, v = .pointer (some ⟨b, 0, none⟩) ∧ w.heap[b]? = some zblk ∧ B ≤ b
theorem NewB.mono {B : Nat} {v : Value} {w w' : World} (hb : Below w.heap.size w w') (h : NewB B v w) : NewB B v w' := by
  obtain ⟨b, e, h1, h2⟩ := h
  exact ⟨b, e, (hb.block b (lt_of_block h1)).trans h1, h2⟩
/-- An item stored in a new box. -/
def putB (W : World) (b : Nat) (r : IRow) : World := W.setRow b #[.int .i64 r.k, .int .i64 r.ak, .string r.tx, .int .i64 r.tr, .int .i64 r.nd, r.ps, r.ms, r.fn]
theorem putB_bi {W : World} {b : Nat} {r : IRow} (h : W.heap[b]? = some zblk) : BI (putB W b r) b r := setRow_heap _ _ _ _ _ _ h
theorem putB_below {W0 W : World} {b : Nat} {r : IRow} (h : Below W0.heap.size W0 W) (hb : W0.heap.size ≤ b) : Below W0.heap.size W0 (putB W b r) := bel_row h hb _
theorem info_it8 : (Tryz.prog.info? 30).map (fun i => i.size) = some 8 := by kernel_rfl
theorem wpList_putB {ops : Array Oper} {rest : List Oper} {o : Oper} {a : Act} {w : World} {Q : Exit → Act → World → Prop} (hgd : o.guard = none) (x y : Operand) (ho : o.op = .store 30 x y)
    (hd : o.dst = none) (b : Nat) (r : IRow) (hx : a.eval x = .pointer (some ⟨b, 0, none⟩)) (hy : a.eval y = itV r) (hz : w.heap[b]? = some zblk) (hr : ROk r) (h : wpList Tryz.prog ops Q rest a (putB w b r)) : wpList Tryz.prog ops Q (o :: rest) a w := by
  have hp : a.put o.dst undef = a := by rw [hd]; rfl
  refine wpList_store_row hgd 30 x y ho b #[.int .i64 r.k, .int .i64 r.ak, .string r.tx, .int .i64 r.tr, .int .i64 r.nd, r.ps, r.ms, r.fn] hx hy 30 _ hz info_it8 rfl ?_ (by rw [hp]; exact h)
  have h1 := hr.ps
  have h2 := hr.ms
  have h3 := hr.fn
  have e1 : ∀ i, (Value.int .i64 i).oneCell' = true := fun _ => rfl
  have e2 : ∀ s, (Value.string s).oneCell' = true := fun _ => rfl
  simp [h1, h2, h3, e1, e2]
theorem list7 {l : List Value} (h : l.length = 7) : ∃ y0 y1 y2 y3 y4 y5 y6, l = [y0, y1, y2, y3, y4, y5, y6] := by
  match l, h with
  | [y0, y1, y2, y3, y4, y5, y6], _ => exact ⟨y0, y1, y2, y3, y4, y5, y6, rfl⟩
theorem list8 {l : List Value} (h : l.length = 8) : ∃ y0 y1 y2 y3 y4 y5 y6 y7, l = [y0, y1, y2, y3, y4, y5, y6, y7] := by
  match l, h with
  | [y0, y1, y2, y3, y4, y5, y6, y7], _ => exact ⟨y0, y1, y2, y3, y4, y5, y6, y7, rfl⟩
theorem list9 {l : List Value} (h : l.length = 9) : ∃ y0 y1 y2 y3 y4 y5 y6 y7 y8, l = [y0, y1, y2, y3, y4, y5, y6, y7, y8] := by
  match l, h with
  | [y0, y1, y2, y3, y4, y5, y6, y7, y8], _ => exact ⟨y0, y1, y2, y3, y4, y5, y6, y7, y8, rfl⟩
theorem list14 {l : List Value} (h : l.length = 14) : ∃ y0 y1 y2 y3 y4 y5 y6 y7 y8 y9 y10 y11 y12 y13, l = [y0, y1, y2, y3, y4, y5, y6, y7, y8, y9, y10, y11, y12, y13] := by
  match l, h with
  | [y0, y1, y2, y3, y4, y5, y6, y7, y8, y9, y10, y11, y12, y13], _ => exact ⟨y0, y1, y2, y3, y4, y5, y6, y7, y8, y9, y10, y11, y12, y13, rfl⟩
theorem zblk_int {W : World} {B off : Nat} {k : Int} (h : W.heap[B]? = some zblk) (hc : W.cell? ⟨B, off, none⟩ = some (.int .i64 k)) : k = 0 := by
  rw [cell_of_row W B off _ _ _ h] at hc
  match off, hc with
  | 0, hc => cases hc; rfl
  | 1, hc => cases hc; rfl
  | 2, hc => cases hc
  | 3, hc => cases hc; rfl
  | 4, hc => cases hc; rfl
  | 5, hc => cases hc
  | 6, hc => cases hc
  | 7, hc => cases hc
  | n + 8, hc => cases hc
theorem putB_rdp {W : World} {b : Nat} {r : IRow} {p : PRow} {l : List PRow} {u : Value} (h : RdP W (p :: l) u) (hp : p.ak ≠ 0) (hz : W.heap[b]? = some zblk) : RdP (putB W b r) (p :: l) u := by
  have h0 := h
  refine RdRows.far h (by simp [putB]) fun b' off n c e => setRow_other _ _ _ _ fun e' => ?_
  subst e'
  obtain ⟨A, c', e2, _, h2⟩ := h0
  obtain ⟨b2, off2, e3, _, hc⟩ := h2 (by simp)
  rw [e] at e2
  injection e2 with e4 _ _
  rw [e3] at e4
  cases e4
  have := hc 0 (by simp) 0 (by omega)
  exact hp (zblk_int hz this)
theorem min_le (n : Nat) (h : n ≤ 65536) : ∀ W, (Builtin.min_ #[3, 3] 3 #[.int .i64 (n : Int), .int .i64 65536]).run Tryz.prog W = .ok (.int .i64 (n : Int)) W := fun W => by
  rw [run_min_int2, if_neg (by omega)]
theorem min_gt (n : Nat) (h : 65536 < n) : ∀ W, (Builtin.min_ #[3, 3] 3 #[.int .i64 (n : Int), .int .i64 65536]).run Tryz.prog W = .ok (.int .i64 65536) W := fun W => by
  rw [run_min_int2, if_pos (by omega)]
def g8 (B L n : Nat) : Nat → Value → World → Prop
  | 0 => fun v _ => v = .agg #[.int .i64 3, .string d1]
  | 1 => fun v _ => v = .slice (some ⟨L, 0, none⟩) n n
  | 2 => fun v _ => v = .int .i64 (n : Int)
  | 3 => fun v _ => v = .int .i64 ((n - 1 : Nat) : Int)
  | 4 => fun v _ => v = .slice (some ⟨L, 0, none⟩) (n - 1) n
  | 5 => fun v _ => v = .agg #[.int .i64 3, .string d1, .slice (some ⟨L, 0, none⟩) (n - 1) n]
  | 6 => fun v w => RdP w [lgP (some ⟨L, 0, none⟩) (n - 1) n] v
  | 7 => fun v w => ∃ u, v = itV (mapR u) ∧ RdP w [lgP (some ⟨L, 0, none⟩) (n - 1) n] u
  | 8 => NewB B
  | _ => fun _ _ => True
theorem g8m (B L n : Nat) (j : Nat) (v : Value) (w w' : World) (hb : Below w.heap.size w w') (h : g8 B L n j v w) : g8 B L n j v w' := by
  unfold g8 at h ⊢
  split at h
  all_goals first | exact h | exact RdRows.below h hb | exact (let ⟨u, e, h⟩ := h; ⟨u, e, RdRows.below h hb⟩) | exact NewB.mono hb h | trivial
def g9 (B L n : Nat) : Nat → Value → World → Prop
  | 0 => fun v _ => v = .agg #[.int .i64 3, .string d1]
  | 1 => fun v _ => v = .slice (some ⟨L, 0, none⟩) n n
  | 2 => fun v _ => v = .slice (some ⟨L, 0, none⟩) 1 n
  | 3 => fun v _ => v = .agg #[.int .i64 3, .string d1, .slice (some ⟨L, 0, none⟩) 1 n]
  | 4 => fun v w => RdP w [lgP (some ⟨L, 0, none⟩) 1 n] v
  | 5 => fun v w => ∃ u, v = itV (mapR u) ∧ RdP w [lgP (some ⟨L, 0, none⟩) 1 n] u
  | 6 => NewB B
  | _ => fun _ _ => True
theorem g9m (B L n : Nat) (j : Nat) (v : Value) (w w' : World) (hb : Below w.heap.size w w') (h : g9 B L n j v w) : g9 B L n j v w' := by
  unfold g9 at h ⊢
  split at h
  all_goals first | exact h | exact RdRows.below h hb | exact (let ⟨u, e, h⟩ := h; ⟨u, e, RdRows.below h hb⟩) | exact NewB.mono hb h | trivial
def g10 (B L n : Nat) (u9 : Value) (c : Int) : Bool → Nat → Value → World → Prop
  | _, 0 => fun v _ => v = itV (mapR u9)
  | _, 1 => fun v _ => v = .agg #[.int .i64 3, .string d2]
  | _, 2 => fun v _ => v = .slice (some ⟨L, 0, none⟩) n n
  | _, 3 => fun v _ => ∃ x, v = .tuple #[itV x, .int .i64 c] ∧ ROk x
  | _, 4 => fun v _ => ∃ x, v = .tuple #[itV x, .int .i64 c] ∧ ROk x
  | _, 5 => fun v _ => ∃ x, v = itV x ∧ ROk x
  | _, 6 => fun v _ => v = .int .i64 c
  | false, 7 => NewB B
  | _, _ => fun _ _ => True
theorem g10m (B L n : Nat) (u9 : Value) (c : Int) (s : Bool) (j : Nat) (v : Value) (w w' : World) (hb : Below w.heap.size w w') (h : g10 B L n u9 c s j v w) : g10 B L n u9 c s j v w' := by
  unfold g10 at h ⊢
  split at h
  all_goals first | exact h | exact NewB.mono hb h | trivial
def g13 (B M n : Nat) (c : Int) : Bool → Nat → Value → World → Prop
  | _, 0 => fun v _ => v = .slice (some ⟨M, 0, none⟩) n n
  | _, 1 => fun v _ => v = .int .i64 (n : Int)
  | _, 2 => fun v _ => v = .int .i64 ((n - 1 : Nat) : Int)
  | _, 3 => fun v _ => v = .slice (some ⟨M, 0, none⟩) (n - 1) n
  | _, 4 => fun v _ => v = itV (aR (.slice (some ⟨M, 0, none⟩) (n - 1) n))
  | _, 5 => fun v _ => v = .slice (some ⟨M, 0, none⟩) n n
  | _, 6 => fun v _ => v = .slice (some ⟨M, 0, none⟩) 1 n
  | _, 7 => fun v _ => v = itV (aR (.slice (some ⟨M, 0, none⟩) 1 n))
  | false, 8 => fun v w => RdI w [aR (.slice (some ⟨M, 0, none⟩) (n - 1) n), aR (.slice (some ⟨M, 0, none⟩) 1 n)] v
  | _, 9 => fun v _ => ∃ x, v = .tuple #[itV x, .int .i64 c] ∧ LgX n x
  | _, 10 => fun v _ => ∃ x, v = .tuple #[itV x, .int .i64 c] ∧ LgX n x
  | _, 11 => fun v _ => ∃ x, v = itV x ∧ LgX n x
  | _, 12 => fun v _ => v = .int .i64 c
  | false, 13 => NewB B
  | true, 13 => fun v w => ∃ b x, v = .pointer (some ⟨b, 0, none⟩) ∧ BI w b x ∧ LgX n x
  | _, _ => fun _ _ => True
theorem g13m (B M n : Nat) (c : Int) (s : Bool) (j : Nat) (v : Value) (w w' : World) (hb : Below w.heap.size w w') (h : g13 B M n c s j v w) : g13 B M n c s j v w' := by
  unfold g13 at h ⊢
  split at h
  all_goals first | exact h | exact RdRows.below h hb | exact NewB.mono hb h | exact (let ⟨b, x, e, h1, h2⟩ := h; ⟨b, x, e, h1.go hb, h2⟩) | trivial
set_option maxRecDepth 100000 in
set_option maxHeartbeats 8000000 in
theorem long_le (q n : Nat) (hq : q < 256) (hn : n = 65534 + q % 4) (hle : n ≤ 65536) (w : World) : Calls Tryz.prog 3 #[.int .u8 (q : Int)] w fun e w' => e = .returned (.bool true) ∧ Below w.heap.size w w' := by
  have hn1 : 65534 ≤ n ∧ n ≤ 65537 := by omega
  have HN := Lib.hid hn1
  have HLE := Lib.hid hle
  have hE : wantE n = 0 := by rw [wantE]; rw [if_pos hle]
  have HE := Lib.hid hE
  clear hE
  have hc' : ∀ W, (convert 5 3 (.int .u8 ((q : Int) % 4))).run Tryz.prog W = .ok (.int .i64 ((n : Int) - 65534)) W := fun W => by
    have e : IntKind.i64.wrap ((q : Int) % 4) = (n : Int) - 65534 := by rw [IntKind.wrap_i64]; omega
    have h : (convert 5 3 (.int .u8 ((q : Int) % 4))).run Tryz.prog W = .ok (.int .i64 (IntKind.i64.wrap ((q : Int) % 4))) W := by kernel_rfl
    rw [e] at h; exact h
  have t1 : decide ((65536 : Int) < (n : Int)) = false := by simp; omega
  have mi := make_items n (by omega)
  have mm := make_mems n (by omega)
  clear hle hn hq
  obtain ⟨hn1, hn2⟩ := hn1
  have hs1 : Value.int .i64 ((n : Int) - 1) = .int .i64 ((n - 1 : Nat) : Int) := by congr 1; omega
  have hs2 : ((n - 1 : Nat) : Int) ≤ (n : Int) := by omega
  have hs3 : (1 : Int) ≤ (n : Int) := by omega
  go_enter Tryz.func3, Tryz.ntmps3
  go_upto_region 2 with fail
  rw [show (65534 + ((n : Int) - 65534)) = n by omega]
  clear hc'
  go_upto_region 8 with fail
  obtain ⟨W0, hW0⟩ : ∃ W0, ((w.alloc (.cells (madeCells z8 (n * 8)) 30)).alloc (.cells (madeCells #[nilS] n) 22)).alloc (ibx (aR (.slice (some ⟨w.heap.size + 1, 0, none⟩) n n))) = W0 := ⟨_, rfl⟩
  have hb0 : Below w.heap.size w W0 := hW0 ▸ (((Below.refl w.heap.size w).alloc (Nat.le_refl _) _).alloc (by simp <;> omega) _).alloc (by simp <;> omega) _
  have hb1 : Below (w.heap.size + 1) (w.alloc (.cells (madeCells z8 (n * 8)) 30)) W0 := hW0 ▸ (((Below.refl (w.heap.size + 1) _).alloc (by simp) _).alloc (by simp) _)
  have hb2 : Below (w.heap.size + 2) ((w.alloc (.cells (madeCells z8 (n * 8)) 30)).alloc (.cells (madeCells #[nilS] n) 22)) W0 := hW0 ▸ ((Below.refl (w.heap.size + 2) _).alloc (by simp) _)
  have i2 := rd_mems n (by omega) (w.alloc (.cells (madeCells z8 (n * 8)) 30))
  rw [show (w.alloc (.cells (madeCells z8 (n * 8)) 30)).heap.size = w.heap.size + 1 by simp] at i2
  have S0 := Lib.hid (show LgS w W0 n w.heap.size (w.heap.size + 1) from ⟨hb0, RdRows.below (rd_items n (by omega) w) (by simpa using hb1), RdRows.below i2 (by simpa using hb2)⟩)
  have X0 := Lib.hid (show BI W0 (w.heap.size + 1 + 1) (aR (.slice (some ⟨w.heap.size + 1, 0, none⟩) n n)) from hW0 ▸ hp_new (by simp))
  change Code.wp _ _ _ _ (((w.alloc (.cells (madeCells z8 (n * 8)) 30)).alloc (.cells (madeCells #[nilS] n) 22)).alloc (ibx (aR (.slice (some ⟨w.heap.size + 1, 0, none⟩) n n))))
  rw [hW0]
  clear hW0 hb0 hb1 hb2 i2 mi mm
  generalize w.heap.size + 1 + 1 = B7 at *
  generalize w.heap.size + 1 = M at *
  generalize hLL : w.heap.size = L at *
  refine wp_region_drawn (by kernel_rfl) 9 144 [33, 34, 35, 36, 37, 38, 39, 40, 8] (g8 W0.heap.size L n) rfl (by kernel_rfl) (g8m _ _ _) ?_ ?_
  · intro i o hi ho ys W hys hb hdep
    obtain ⟨y0, y1, y2, y3, y4, y5, y6, y7, y8, rfl⟩ := list9 hys
    have hi' : i = 0 ∨ i = 1 ∨ i = 2 ∨ i = 3 ∨ i = 4 ∨ i = 5 ∨ i = 6 ∨ i = 7 ∨ i = 8 := by omega
    simp only [setM, List.setIfInBounds_toArray, List.set_cons_zero, List.set_cons_succ]
    rcases hi' with rfl | rfl | rfl | rfl | rfl | rfl | rfl | rfl | rfl
    · cases ho
      go_wp2_with fail
      refine (number_any _ _).mono ?_
      rintro e w1 ⟨rfl, hb1⟩
      go_wp2
      exact ⟨rfl, _, rfl, hb1, rfl⟩
    · cases ho
      go_wp2
      exact ⟨rfl, _, rfl, Below.refl _ _, rfl⟩
    · cases ho
      go_wp2
      exact ⟨rfl, _, rfl, Below.refl _ _, rfl⟩
    · cases ho
      obtain rfl : y2 = .int .i64 (n : Int) := hdep 2 (by omega) (by kernel_rfl)
      go_wp2
      exact ⟨rfl, _, rfl, Below.refl _ _, hs1⟩
    · cases ho
      obtain rfl : y1 = .slice (some ⟨L, 0, none⟩) n n := hdep 1 (by omega) (by kernel_rfl)
      obtain rfl : y3 = .int .i64 ((n - 1 : Nat) : Int) := hdep 3 (by omega) (by kernel_rfl)
      go_wp2
      exact ⟨rfl, _, rfl, Below.refl _ _, rfl⟩
    · cases ho
      obtain rfl : y0 = .agg #[.int .i64 3, .string d1] := hdep 0 (by omega) (by kernel_rfl)
      obtain rfl : y4 = .slice (some ⟨L, 0, none⟩) (n - 1) n := hdep 4 (by omega) (by kernel_rfl)
      go_wp2
      exact ⟨rfl, _, rfl, Below.refl _ _, rfl⟩
    · cases ho
      obtain rfl : y5 = .agg #[.int .i64 3, .string d1, .slice (some ⟨L, 0, none⟩) (n - 1) n] := hdep 5 (by omega) (by kernel_rfl)
      go_wp2
      exact ⟨rfl, _, rfl, box1 _ _ _, lite_one (p := lgP (some ⟨L, 0, none⟩) (n - 1) n)⟩
    · cases ho
      have h6 : RdP W [lgP (some ⟨L, 0, none⟩) (n - 1) n] y6 := hdep 6 (by omega) (by kernel_rfl)
      obtain ⟨A6, c6, e6, _⟩ := RdP.form h6
      obtain rfl : y6 = .slice A6 1 c6 := e6
      go_wp2
      exact ⟨rfl, _, rfl, Below.refl _ _, _, rfl, h6⟩
    · cases ho
      go_wp2
      exact ⟨rfl, _, rfl, box1 _ _ _, _, rfl, hp_new rfl, hb.size⟩
  · intro ys W hys hb hall
    obtain ⟨y0, y1, y2, y3, y4, y5, y6, y7, y8, rfl⟩ := list9 hys
    simp only [setM, List.setIfInBounds_toArray, List.set_cons_zero, List.set_cons_succ]
    obtain ⟨u8, rfl, hu8⟩ : ∃ u, y7 = itV (mapR u) ∧ RdP W [lgP (some ⟨L, 0, none⟩) (n - 1) n] u := hall 7 (by omega)
    obtain ⟨B8, rfl, hz8, hl8⟩ : NewB W0.heap.size y8 W := hall 8 (by omega)
    obtain ⟨A8, c8, e8, _⟩ := RdP.form hu8
    obtain rfl : u8 = .slice A8 1 c8 := e8
    clear hall
    simp only [List.drop_succ_cons, List.drop_zero]
    refine wpList_putB rfl (.tmp 8) (.tmp 40) rfl rfl B8 (mapR (.slice A8 1 c8)) rfl rfl hz8 ⟨rfl, rfl, rfl⟩ ?_
    obtain ⟨W1, hW1⟩ : ∃ W1, putB W B8 (mapR (.slice A8 1 c8)) = W1 := ⟨_, rfl⟩
    have hb1 : Below W0.heap.size W0 W1 := hW1 ▸ putB_below hb hl8
    have S1 := Lib.hid (S0.out.go hb1)
    have X71 := Lib.hid (X0.out.go hb1)
    have X81 := Lib.hid (show BI W1 B8 (mapR (.slice A8 1 c8)) from hW1 ▸ putB_bi hz8)
    have P81 := Lib.hid (show RdP W1 [lgP (some ⟨L, 0, none⟩) (n - 1) n] (.slice A8 1 c8) from hW1 ▸ putB_rdp hu8 (show (3 : Int) ≠ 0 by decide) hz8)
    rw [hW1]
    clear hW1 hb1 hz8 hu8 hl8 hb S0 X0
    go_wp2_with fail
    refine wp_region_drawn (by kernel_rfl) 7 144 [41, 42, 43, 44, 45, 46, 9] (g9 W1.heap.size L n) rfl (by kernel_rfl) (g9m _ _ _) ?_ ?_
    · intro i o hi ho ys W hys hb hdep
      obtain ⟨y0, y1, y2, y3, y4, y5, y6, rfl⟩ := list7 hys
      have hi' : i = 0 ∨ i = 1 ∨ i = 2 ∨ i = 3 ∨ i = 4 ∨ i = 5 ∨ i = 6 := by omega
      simp only [setM, List.setIfInBounds_toArray, List.set_cons_zero, List.set_cons_succ]
      rcases hi' with rfl | rfl | rfl | rfl | rfl | rfl | rfl
      · cases ho
        go_wp2_with fail
        refine (number_any _ _).mono ?_
        rintro e w1 ⟨rfl, hb1⟩
        go_wp2
        exact ⟨rfl, _, rfl, hb1, rfl⟩
      · cases ho
        go_wp2
        exact ⟨rfl, _, rfl, Below.refl _ _, rfl⟩
      · cases ho
        obtain rfl : y1 = .slice (some ⟨L, 0, none⟩) n n := hdep 1 (by omega) (by kernel_rfl)
        go_wp2
        exact ⟨rfl, _, rfl, Below.refl _ _, rfl⟩
      · cases ho
        obtain rfl : y0 = .agg #[.int .i64 3, .string d1] := hdep 0 (by omega) (by kernel_rfl)
        obtain rfl : y2 = .slice (some ⟨L, 0, none⟩) 1 n := hdep 2 (by omega) (by kernel_rfl)
        go_wp2
        exact ⟨rfl, _, rfl, Below.refl _ _, rfl⟩
      · cases ho
        obtain rfl : y3 = .agg #[.int .i64 3, .string d1, .slice (some ⟨L, 0, none⟩) 1 n] := hdep 3 (by omega) (by kernel_rfl)
        go_wp2
        exact ⟨rfl, _, rfl, box1 _ _ _, lite_one (p := lgP (some ⟨L, 0, none⟩) 1 n)⟩
      · cases ho
        have h6 : RdP W [lgP (some ⟨L, 0, none⟩) 1 n] y4 := hdep 4 (by omega) (by kernel_rfl)
        obtain ⟨A6, c6, e6, _⟩ := RdP.form h6
        obtain rfl : y4 = .slice A6 1 c6 := e6
        go_wp2
        exact ⟨rfl, _, rfl, Below.refl _ _, _, rfl, h6⟩
      · cases ho
        go_wp2
        exact ⟨rfl, _, rfl, box1 _ _ _, _, rfl, hp_new rfl, hb.size⟩
    · intro ys W hys hb hall
      obtain ⟨y0, y1, y2, y3, y4, y5, y6, rfl⟩ := list7 hys
      simp only [setM, List.setIfInBounds_toArray, List.set_cons_zero, List.set_cons_succ]
      obtain ⟨u9, rfl, hu9⟩ : ∃ u, y5 = itV (mapR u) ∧ RdP W [lgP (some ⟨L, 0, none⟩) 1 n] u := hall 5 (by omega)
      obtain ⟨B9, rfl, hz9, hl9⟩ : NewB W1.heap.size y6 W := hall 6 (by omega)
      obtain ⟨A9, c9, e9, _⟩ := RdP.form hu9
      obtain rfl : u9 = .slice A9 1 c9 := e9
      clear hall
      simp only [List.drop_succ_cons, List.drop_zero]
      refine wpList_putB rfl (.tmp 9) (.tmp 46) rfl rfl B9 (mapR (.slice A9 1 c9)) rfl rfl hz9 ⟨rfl, rfl, rfl⟩ ?_
      obtain ⟨W2, hW2⟩ : ∃ W2, putB W B9 (mapR (.slice A9 1 c9)) = W2 := ⟨_, rfl⟩
      have hb2 : Below W1.heap.size W1 W2 := hW2 ▸ putB_below hb hl9
      have T2 := Lib.hid (show LgT w W2 n L M B7 B8 B9 (.slice A8 1 c8) (.slice A9 1 c9) from ⟨S1.out.go hb2, X71.out.go hb2, X81.out.go hb2, RdRows.below P81.out hb2, hW2 ▸ putB_bi hz9, hW2 ▸ putB_rdp hu9 (show (3 : Int) ≠ 0 by decide) hz9⟩)
      have hok9 : ∃ u, u = Value.slice A9 1 c9 ∧ u.oneCell' = true := ⟨_, rfl, rfl⟩
      rw [hW2]
      clear hW2 hb2 hz9 hu9 hl9 hb S1 X71 X81 P81
      go_wp2_with fail
      refine wp_region_drawn2 (by kernel_rfl) 8 144 [48, 49, 50, 51, 47, 52, 53, 10] [6] (g10 W2.heap.size L n (.slice A9 1 c9) 0) rfl (by kernel_rfl) (g10m _ _ _ _ _) ?_ ?_ ?_ ?_
      · intro i o hi ho ys W hys hb hdep
        obtain ⟨y0, y1, y2, y3, y4, y5, y6, y7, rfl⟩ := list8 hys
        have hi' : i = 0 ∨ i = 1 ∨ i = 2 ∨ i = 3 ∨ i = 4 ∨ i = 5 ∨ i = 6 ∨ i = 7 := by omega
        simp only [setM, List.setIfInBounds_toArray, List.set_cons_zero, List.set_cons_succ]
        rcases hi' with rfl | rfl | rfl | rfl | rfl | rfl | rfl | rfl
        · cases ho
          obtain ⟨l0, l1, l2, l3, l4, l5, l6, l7⟩ := blk8c (T2.out.go hb).x9
          go_wp2
          exact ⟨rfl, _, rfl, Below.refl _ _, rfl⟩
        · cases ho
          go_wp2_with fail
          refine (number_any _ _).mono ?_
          rintro e w1 ⟨rfl, hb1⟩
          go_wp2
          exact ⟨rfl, _, rfl, hb1, rfl⟩
        · cases ho
          go_wp2
          exact ⟨rfl, _, rfl, Below.refl _ _, rfl⟩
        · cases ho
          obtain rfl : y0 = itV (mapR (.slice A9 1 c9)) := hdep 0 (by omega) (by kernel_rfl)
          obtain rfl : y1 = .agg #[.int .i64 3, .string d2] := hdep 1 (by omega) (by kernel_rfl)
          obtain rfl : y2 = .slice (some ⟨L, 0, none⟩) n n := hdep 2 (by omega) (by kernel_rfl)
          have HP := putLg W (by omega) (by omega) (T2.out.go hb).p9 (T2.out.go hb).s.i
          rw [HE.out] at HP
          go_wp2_with fail
          refine HP.mono ?_
          rintro e w1 ⟨⟨x, rfl, hx⟩, hb1⟩
          go_wp2
          exact ⟨rfl, _, rfl, hb1, x, rfl, hx⟩
        · cases ho
          obtain ⟨x, rfl, hx⟩ : ∃ x, y3 = .tuple #[itV x, .int .i64 0] ∧ ROk x := hdep 3 (by omega) (by kernel_rfl)
          go_wp2
          exact ⟨rfl, _, rfl, Below.refl _ _, x, rfl, hx⟩
        · cases ho
          obtain ⟨x, rfl, hx⟩ : ∃ x, y4 = .tuple #[itV x, .int .i64 0] ∧ ROk x := hdep 4 (by omega) (by kernel_rfl)
          go_wp2
          exact ⟨rfl, _, rfl, Below.refl _ _, x, rfl, hx⟩
        · cases ho
          obtain ⟨x, rfl, hx⟩ : ∃ x, y4 = .tuple #[itV x, .int .i64 0] ∧ ROk x := hdep 4 (by omega) (by kernel_rfl)
          go_wp2
          exact ⟨rfl, _, rfl, Below.refl _ _, rfl⟩
        · cases ho
          go_wp2
          exact ⟨rfl, _, rfl, box1 _ _ _, _, rfl, hp_new rfl, hb.size⟩
      · intro i o hl hi ho ys W hys hb hdep
        obtain ⟨y0, y1, y2, y3, y4, y5, y6, y7, rfl⟩ := list8 hys
        simp only [setM, List.setIfInBounds_toArray, List.set_cons_zero, List.set_cons_succ]
        have hi' : i = 6 := by simpa using hl
        rcases hi' with rfl
        · cases ho
          obtain ⟨x, rfl, hx⟩ : ∃ x, y4 = .tuple #[itV x, .int .i64 0] ∧ ROk x := hdep 4 (by omega) (by kernel_rfl)
          go_wp2
          exact ⟨rfl, _, rfl, Below.refl _ _, rfl⟩
      · intro o ho ys W hys hb hdep
        obtain ⟨y0, y1, y2, y3, y4, y5, y6, y7, rfl⟩ := list8 hys
        simp only [setM, List.setIfInBounds_toArray, List.set_cons_zero, List.set_cons_succ]
        cases ho
        obtain ⟨x, rfl, hx⟩ : ∃ x, y5 = itV x ∧ ROk x := hdep 5 (by omega) (by kernel_rfl)
        obtain ⟨B10, rfl, hz10, hl10⟩ : NewB W2.heap.size y7 W := hdep 7 (by omega) (by kernel_rfl)
        refine wpList_putB rfl (.tmp 10) (.tmp 52) rfl rfl B10 x rfl rfl hz10 hx ?_
        refine ⟨rfl, rfl, putB_below hb hl10, fun j hj h => ?_⟩
        match j, hj, h with
        | 0, _, h => exact h
        | 1, _, h => exact h
        | 2, _, h => exact h
        | 3, _, h => exact h
        | 4, _, h => exact h
        | 5, _, h => exact h
        | 6, _, h => exact h
        | 7, _, h => exact trivial
      · intro ys W hys hb hall
        obtain ⟨y0, y1, y2, y3, y4, y5, y6, y7, rfl⟩ := list8 hys
        simp only [setM, List.setIfInBounds_toArray, List.set_cons_zero, List.set_cons_succ]
        obtain rfl : y6 = .int .i64 0 := hall 6 (by omega)
        clear hall
        simp only [List.drop_succ_cons, List.drop_zero]
        have T3 := Lib.hid (T2.out.go hb)
        clear T2 hb
        generalize W = W3 at *
        obtain ⟨l0, l1, l2, l3, l4, l5, l6, l7⟩ := blk8c T3.out.x8
        obtain ⟨m0, m1, m2, m3, m4, m5, m6, m7⟩ := blk8c T3.out.x9
        go_wp2_with fail
        simp only [mapR]
        obtain ⟨W4, hW4⟩ : ∃ W4, W3.alloc (.cells #[.int .i64 2, .int .i64 0, .string { data := #[] }, .int .i64 0, .int .i64 0, .slice A8 1 c8, .slice none 0 0, .pointer none, .int .i64 2, .int .i64 0, .string { data := #[] }, .int .i64 0, .int .i64 0, .slice A9 1 c9, .slice none 0 0, .pointer none] 30) = W4 := ⟨_, rfl⟩
        have hr4 : RdI W4 [mapR (.slice A8 1 c8), mapR (.slice A9 1 c9)] (.slice (some ⟨W3.heap.size, 0, none⟩) 2 2) := hW4 ▸ lite_two
        have hb4 : Below W3.heap.size W3 W4 := hW4 ▸ box1 _ _ _
        have T4 := Lib.hid (T3.out.go hb4)
        rw [hW4]
        have HM := mergeLg W4 (by omega) (by omega) hr4 T4.out.p8 T4.out.p9 T4.out.s.i
        rw [HE.out] at HM
        refine HM.mono ?_
        rintro e w5 ⟨⟨x, rfl, hx⟩, hb5⟩
        have T5 := Lib.hid (T4.out.go hb5)
        clear HM hb5 hr4 hb4 hW4 T3 T4 l0 l1 l2 l3 l4 l5 l6 l7 m0 m1 m2 m3 m4 m5 m6 m7
        obtain ⟨kx, akx, txx, trx, ndx, psx, msx, fnx⟩ := x
        have sps := fun w a m => run_store Tryz.prog w a psx m hx.ps
        have sms := fun w a m => run_store Tryz.prog w a msx m hx.ms
        have sfn := fun w a m => run_store Tryz.prog w a fnx m hx.fn
        have ops := hx.ps
        have oms := hx.ms
        have ofn := hx.fn
        dsimp only at ops oms ofn sps sms sfn
        simp only [itV]
        go_wp2_with fail
        obtain ⟨W6, hW6⟩ : ∃ W6, w5.alloc (.cells #[.int .i64 kx, .int .i64 akx, .string txx, .int .i64 trx, .int .i64 ndx, psx, msx, fnx] 30) = W6 := ⟨_, rfl⟩
        have T6 := Lib.hid (T5.out.go (hW6 ▸ box1 _ _ _))
        rw [hW6]
        clear hW6 T5 sps sms sfn ops oms ofn hx
        have HI := insLg1 W6 (by omega) (by omega) (take_mems T6.out.s.m (k := n - 1) (by omega))
        rw [HE.out] at HI
        refine HI.mono ?_
        rintro e w7 ⟨⟨x2, rfl, hx2, hl2⟩, hb7⟩
        have T7 := Lib.hid (T6.out.go hb7)
        clear HI hb7 T6
        obtain ⟨kx2, akx2, txx2, trx2, ndx2, psx2, msx2, fnx2⟩ := x2
        have sps := fun w a m => run_store Tryz.prog w a psx2 m hx2.ps
        have sms := fun w a m => run_store Tryz.prog w a msx2 m hx2.ms
        have sfn := fun w a m => run_store Tryz.prog w a fnx2 m hx2.fn
        have ops := hx2.ps
        have oms := hx2.ms
        have ofn := hx2.fn
        dsimp only at ops oms ofn sps sms sfn
        simp only [itV]
        go_upto_region 13 with fail
        obtain ⟨W8, hW8⟩ : ∃ W8, w7.alloc (.cells #[.int .i64 kx2, .int .i64 akx2, .string txx2, .int .i64 trx2, .int .i64 ndx2, psx2, msx2, fnx2] 30) = W8 := ⟨_, rfl⟩
        have T8 := Lib.hid (T7.out.go (hW8 ▸ box1 _ _ _))
        have X8 := Lib.hid (show BI W8 w7.heap.size ⟨kx2, akx2, txx2, trx2, ndx2, psx2, msx2, fnx2⟩ from hW8 ▸ hp_new rfl)
        have HL2 := Lib.hid hl2
        rw [hW8]
        clear hW8 T7 sps sms sfn ops oms ofn hx2 hl2
        generalize w7.heap.size = B14 at *
        rw [hs1]
        refine wp_region_drawn2 (by kernel_rfl) 14 144 [71, 72, 73, 74, 75, 76, 77, 78, 79, 80, 70, 81, 82, 16] [12] (g13 W8.heap.size M n 0) rfl (by kernel_rfl) (g13m _ _ _ _) ?_ ?_ ?_ ?_
        · intro i o hi ho ys W hys hb hdep
          obtain ⟨y0, y1, y2, y3, y4, y5, y6, y7, y8, y9, y10, y11, y12, y13, rfl⟩ := list14 hys
          have hi' : i = 0 ∨ i = 1 ∨ i = 2 ∨ i = 3 ∨ i = 4 ∨ i = 5 ∨ i = 6 ∨ i = 7 ∨ i = 8 ∨ i = 9 ∨ i = 10 ∨ i = 11 ∨ i = 12 ∨ i = 13 := by omega
          simp only [setM, List.setIfInBounds_toArray, List.set_cons_zero, List.set_cons_succ]
          rcases hi' with rfl | rfl | rfl | rfl | rfl | rfl | rfl | rfl | rfl | rfl | rfl | rfl | rfl | rfl
          · cases ho
            go_wp2
            exact ⟨rfl, _, rfl, Below.refl _ _, rfl⟩
          · cases ho
            go_wp2
            exact ⟨rfl, _, rfl, Below.refl _ _, rfl⟩
          · cases ho
            obtain rfl : y1 = .int .i64 (n : Int) := hdep 1 (by omega) (by kernel_rfl)
            go_wp2
            exact ⟨rfl, _, rfl, Below.refl _ _, hs1⟩
          · cases ho
            obtain rfl : y0 = .slice (some ⟨M, 0, none⟩) n n := hdep 0 (by omega) (by kernel_rfl)
            obtain rfl : y2 = .int .i64 ((n - 1 : Nat) : Int) := hdep 2 (by omega) (by kernel_rfl)
            go_wp2
            exact ⟨rfl, _, rfl, Below.refl _ _, rfl⟩
          · cases ho
            obtain rfl : y3 = .slice (some ⟨M, 0, none⟩) (n - 1) n := hdep 3 (by omega) (by kernel_rfl)
            go_wp2
            exact ⟨rfl, _, rfl, Below.refl _ _, rfl⟩
          · cases ho
            go_wp2
            exact ⟨rfl, _, rfl, Below.refl _ _, rfl⟩
          · cases ho
            obtain rfl : y5 = .slice (some ⟨M, 0, none⟩) n n := hdep 5 (by omega) (by kernel_rfl)
            go_wp2
            exact ⟨rfl, _, rfl, Below.refl _ _, rfl⟩
          · cases ho
            obtain rfl : y6 = .slice (some ⟨M, 0, none⟩) 1 n := hdep 6 (by omega) (by kernel_rfl)
            go_wp2
            exact ⟨rfl, _, rfl, Below.refl _ _, rfl⟩
          · cases ho
            obtain rfl : y4 = itV (aR (.slice (some ⟨M, 0, none⟩) (n - 1) n)) := hdep 4 (by omega) (by kernel_rfl)
            obtain rfl : y7 = itV (aR (.slice (some ⟨M, 0, none⟩) 1 n)) := hdep 7 (by omega) (by kernel_rfl)
            simp only [itV, aR]
            go_wp2
            exact ⟨rfl, _, rfl, box1 _ _ _, lite_two (x := aR (.slice (some ⟨M, 0, none⟩) (n - 1) n)) (y := aR (.slice (some ⟨M, 0, none⟩) 1 n))⟩
          · cases ho
            have h8 : RdI W [aR (.slice (some ⟨M, 0, none⟩) (n - 1) n), aR (.slice (some ⟨M, 0, none⟩) 1 n)] y8 := hdep 8 (by omega) (by kernel_rfl)
            have HP := joinLg W (by omega) (by omega) h8 (T8.out.go hb).s.m
            rw [HE.out] at HP
            go_wp2_with fail
            refine HP.mono ?_
            rintro e w1 ⟨⟨x, rfl, hx⟩, hb1⟩
            go_wp2
            exact ⟨rfl, _, rfl, hb1, x, rfl, hx⟩
          · cases ho
            obtain ⟨x, rfl, hx⟩ : ∃ x, y9 = .tuple #[itV x, .int .i64 0] ∧ LgX n x := hdep 9 (by omega) (by kernel_rfl)
            go_wp2
            exact ⟨rfl, _, rfl, Below.refl _ _, x, rfl, hx⟩
          · cases ho
            obtain ⟨x, rfl, hx⟩ : ∃ x, y10 = .tuple #[itV x, .int .i64 0] ∧ LgX n x := hdep 10 (by omega) (by kernel_rfl)
            go_wp2
            exact ⟨rfl, _, rfl, Below.refl _ _, x, rfl, hx⟩
          · cases ho
            obtain ⟨x, rfl, hx⟩ : ∃ x, y10 = .tuple #[itV x, .int .i64 0] ∧ LgX n x := hdep 10 (by omega) (by kernel_rfl)
            go_wp2
            exact ⟨rfl, _, rfl, Below.refl _ _, rfl⟩
          · cases ho
            go_wp2
            exact ⟨rfl, _, rfl, box1 _ _ _, _, rfl, hp_new rfl, hb.size⟩
        · intro i o hl hi ho ys W hys hb hdep
          obtain ⟨y0, y1, y2, y3, y4, y5, y6, y7, y8, y9, y10, y11, y12, y13, rfl⟩ := list14 hys
          simp only [setM, List.setIfInBounds_toArray, List.set_cons_zero, List.set_cons_succ]
          have hi' : i = 12 := by simpa using hl
          rcases hi' with rfl
          · cases ho
            obtain ⟨x, rfl, hx⟩ : ∃ x, y10 = .tuple #[itV x, .int .i64 0] ∧ LgX n x := hdep 10 (by omega) (by kernel_rfl)
            go_wp2
            exact ⟨rfl, _, rfl, Below.refl _ _, rfl⟩
        · intro o ho ys W hys hb hdep
          obtain ⟨y0, y1, y2, y3, y4, y5, y6, y7, y8, y9, y10, y11, y12, y13, rfl⟩ := list14 hys
          simp only [setM, List.setIfInBounds_toArray, List.set_cons_zero, List.set_cons_succ]
          cases ho
          obtain ⟨x, rfl, hx⟩ : ∃ x, y11 = itV x ∧ LgX n x := hdep 11 (by omega) (by kernel_rfl)
          obtain ⟨B16, rfl, hz16, hl16⟩ : NewB W8.heap.size y13 W := hdep 13 (by omega) (by kernel_rfl)
          refine wpList_putB rfl (.tmp 16) (.tmp 81) rfl rfl B16 x rfl rfl hz16 hx.1 ?_
          refine ⟨rfl, rfl, putB_below hb hl16, fun j hj h => ?_⟩
          match j, hj, h with
          | 0, _, h => exact h
          | 1, _, h => exact h
          | 2, _, h => exact h
          | 3, _, h => exact h
          | 4, _, h => exact h
          | 5, _, h => exact h
          | 6, _, h => exact h
          | 7, _, h => exact h
          | 8, _, h => exact trivial
          | 9, _, h => exact h
          | 10, _, h => exact h
          | 11, _, h => exact h
          | 12, _, h => exact h
          | 13, _, h => exact ⟨_, _, rfl, putB_bi hz16, hx⟩
        · intro ys W hys hb hall
          obtain ⟨y0, y1, y2, y3, y4, y5, y6, y7, y8, y9, y10, y11, y12, y13, rfl⟩ := list14 hys
          simp only [setM, List.setIfInBounds_toArray, List.set_cons_zero, List.set_cons_succ]
          obtain rfl : y12 = .int .i64 0 := hall 12 (by omega)
          obtain ⟨B16, x16, rfl, hx16, hl16⟩ : ∃ b x, y13 = .pointer (some ⟨b, 0, none⟩) ∧ BI W b x ∧ LgX n x := hall 13 (by omega)
          clear hall
          simp only [List.drop_succ_cons, List.drop_zero]
          have T9 := Lib.hid (T8.out.go hb)
          have X9 := Lib.hid (X8.out.go hb)
          have Y9 := Lib.hid hx16
          have HL3 := Lib.hid hl16.2
          clear T8 X8 hb hx16 hl16
          generalize W = W9 at *
          go_wp2_with fail
          have HI := insLg2 W9 (by omega) (by omega) T9.out.s.i
          rw [HE.out] at HI
          refine HI.mono ?_
          rintro e w10 ⟨⟨x, rfl, hx⟩, hb10⟩
          have T10 := Lib.hid (T9.out.go hb10)
          have X10 := Lib.hid (X9.out.go hb10)
          have Y10 := Lib.hid (Y9.out.go hb10)
          clear HI hb10 T9 X9 Y9
          obtain ⟨l0, l1, l2, l3, l4, l5, l6, l7⟩ := blk8c T10.out.x7
          have hB7 : B7 < w10.heap.size := lt_of_block T10.out.x7
          obtain ⟨kx, akx, txx, trx, ndx, psx, msx, fnx⟩ := x
          have sps := fun w a m => run_store Tryz.prog w a psx m hx.ps
          have sms := fun w a m => run_store Tryz.prog w a msx m hx.ms
          have sfn := fun w a m => run_store Tryz.prog w a fnx m hx.fn
          have ops := hx.ps
          have oms := hx.ms
          have ofn := hx.fn
          dsimp only at ops oms ofn sps sms sfn
          simp only [itV]
          go_wp2_with fail
          simp only [aR]
          obtain ⟨W11, hW11⟩ : ∃ W11, w10.alloc (.cells #[.int .i64 kx, .int .i64 akx, .string txx, .int .i64 trx, .int .i64 ndx, psx, msx, fnx] 30) = W11 := ⟨_, rfl⟩
          have hb11 : Below w10.heap.size w10 W11 := hW11 ▸ box1 _ _ _
          have hs11 : W11.heap.size = w10.heap.size + 1 := by rw [← hW11]; simp
          rw [hW11, ← hs11]
          have hm11 := lite_mem (W := W11) (v := .slice (some ⟨L, 0, none⟩) n n)
          have hb12 := box1 W11 22 #[.slice (some ⟨L, 0, none⟩) n n]
          obtain ⟨W12, hW12⟩ : ∃ W12, W11.alloc (.cells #[.slice (some ⟨L, 0, none⟩) n n] 22) = W12 := ⟨_, rfl⟩
          have hs12 : W12.heap.size = W11.heap.size + 1 := by rw [← hW12]; simp
          rw [hW12] at hm11 hb12 ⊢
          rw [← hs12]
          have hr12 := lite_two (W := W12) (x := aR (.slice (some ⟨W11.heap.size, 0, none⟩) 1 1)) (y := aR (.slice (some ⟨M, 0, none⟩) n n))
          simp only [aR] at hr12
          obtain ⟨W13, hW13⟩ : ∃ W13, W12.alloc (.cells #[.int .i64 3, .int .i64 0, .string { data := #[] }, .int .i64 0, .int .i64 0, .slice none 0 0, .slice (some ⟨W11.heap.size, 0, none⟩) 1 1, .pointer none, .int .i64 3, .int .i64 0, .string { data := #[] }, .int .i64 0, .int .i64 0, .slice none 0 0, .slice (some ⟨M, 0, none⟩) n n, .pointer none] 30) = W13 := ⟨_, rfl⟩
          have hb13 : Below W12.heap.size W12 W13 := hW13 ▸ box1 _ _ _
          rw [hW13] at hr12 ⊢
          have hbb : Below w10.heap.size w10 W13 := hb11.trans ((hb12.mono (by omega)).trans (hb13.mono (by omega)))
          have T13 := Lib.hid (T10.out.go hbb)
          have X13 := Lib.hid (X10.out.go hbb)
          have Y13 := Lib.hid (Y10.out.go hbb)
          refine (flatLg W13 (by omega) (by omega) hr12 (RdRows.below hm11 hb13) T13.out.s.i T13.out.s.m).mono ?_
          rintro e w14 ⟨⟨A15, c15, rfl⟩, hb14⟩
          have B14' := Lib.hid ((T13.out.s.b).trans (hb14.mono T13.out.s.b.size))
          have X14 := Lib.hid (X13.out.go hb14)
          have Y14 := Lib.hid (Y13.out.go hb14)
          clear hb14 hbb hb11 hb12 hb13 hr12 hm11 hs11 hs12 hW11 hW12 hW13 T10 T13 X10 X13 Y10 Y13 sps sms sfn ops oms ofn hx l0 l1 l2 l3 l4 l5 l6 l7 hB7
          rw [show min n 65536 = n from Nat.min_eq_left HLE.out]
          obtain ⟨A14, c14, e14⟩ := HL2.out HLE.out
          obtain ⟨A16, c16, rfl⟩ := HL3.out HLE.out
          rw [e14] at X14
          obtain ⟨p0, p1, p2, p3, p4, p5, p6, p7⟩ := blk8c X14.out
          obtain ⟨r0, r1, r2, r3, r4, r5, r6, r7⟩ := blk8c Y14.out
          simp only [aR] at p0 p1 p2 p3 p4 p5 p6 p7 r0 r1 r2 r3 r4 r5 r6 r7
          have hmin := min_le n HLE.out
          go_wp2_with fail
          refine (works_any _).mono ?_
          rintro e w15 ⟨rfl, hb15⟩
          have HB15 := Lib.hid (B14'.out.trans (hb15.mono B14'.out.size))
          clear hb15
          go_wp2
          go_ret
          exact ⟨rB rfl, HB15.out⟩
set_option maxRecDepth 100000 in
set_option maxHeartbeats 8000000 in
theorem long_gt (q n : Nat) (hq : q < 256) (hn : n = 65534 + q % 4) (hle : 65536 < n) (w : World) : Calls Tryz.prog 3 #[.int .u8 (q : Int)] w fun e w' => e = .returned (.bool true) ∧ Below w.heap.size w w' := by
  have hn1 : 65534 ≤ n ∧ n ≤ 65537 := by omega
  have HN := Lib.hid hn1
  have HLE := Lib.hid hle
  have hE : wantE n = 2 := by rw [wantE]; rw [if_neg (by omega)]
  have HE := Lib.hid hE
  clear hE
  have hc' : ∀ W, (convert 5 3 (.int .u8 ((q : Int) % 4))).run Tryz.prog W = .ok (.int .i64 ((n : Int) - 65534)) W := fun W => by
    have e : IntKind.i64.wrap ((q : Int) % 4) = (n : Int) - 65534 := by rw [IntKind.wrap_i64]; omega
    have h : (convert 5 3 (.int .u8 ((q : Int) % 4))).run Tryz.prog W = .ok (.int .i64 (IntKind.i64.wrap ((q : Int) % 4))) W := by kernel_rfl
    rw [e] at h; exact h
  have t1 : decide ((65536 : Int) < (n : Int)) = true := by simp; omega
  have mi := make_items n (by omega)
  have mm := make_mems n (by omega)
  clear hle hn hq
  obtain ⟨hn1, hn2⟩ := hn1
  have hs1 : Value.int .i64 ((n : Int) - 1) = .int .i64 ((n - 1 : Nat) : Int) := by congr 1; omega
  have hs2 : ((n - 1 : Nat) : Int) ≤ (n : Int) := by omega
  have hs3 : (1 : Int) ≤ (n : Int) := by omega
  go_enter Tryz.func3, Tryz.ntmps3
  go_upto_region 2 with fail
  rw [show (65534 + ((n : Int) - 65534)) = n by omega]
  clear hc'
  go_upto_region 8 with fail
  obtain ⟨W0, hW0⟩ : ∃ W0, ((w.alloc (.cells (madeCells z8 (n * 8)) 30)).alloc (.cells (madeCells #[nilS] n) 22)).alloc (ibx (aR (.slice (some ⟨w.heap.size + 1, 0, none⟩) n n))) = W0 := ⟨_, rfl⟩
  have hb0 : Below w.heap.size w W0 := hW0 ▸ (((Below.refl w.heap.size w).alloc (Nat.le_refl _) _).alloc (by simp <;> omega) _).alloc (by simp <;> omega) _
  have hb1 : Below (w.heap.size + 1) (w.alloc (.cells (madeCells z8 (n * 8)) 30)) W0 := hW0 ▸ (((Below.refl (w.heap.size + 1) _).alloc (by simp) _).alloc (by simp) _)
  have hb2 : Below (w.heap.size + 2) ((w.alloc (.cells (madeCells z8 (n * 8)) 30)).alloc (.cells (madeCells #[nilS] n) 22)) W0 := hW0 ▸ ((Below.refl (w.heap.size + 2) _).alloc (by simp) _)
  have i2 := rd_mems n (by omega) (w.alloc (.cells (madeCells z8 (n * 8)) 30))
  rw [show (w.alloc (.cells (madeCells z8 (n * 8)) 30)).heap.size = w.heap.size + 1 by simp] at i2
  have S0 := Lib.hid (show LgS w W0 n w.heap.size (w.heap.size + 1) from ⟨hb0, RdRows.below (rd_items n (by omega) w) (by simpa using hb1), RdRows.below i2 (by simpa using hb2)⟩)
  have X0 := Lib.hid (show BI W0 (w.heap.size + 1 + 1) (aR (.slice (some ⟨w.heap.size + 1, 0, none⟩) n n)) from hW0 ▸ hp_new (by simp))
  change Code.wp _ _ _ _ (((w.alloc (.cells (madeCells z8 (n * 8)) 30)).alloc (.cells (madeCells #[nilS] n) 22)).alloc (ibx (aR (.slice (some ⟨w.heap.size + 1, 0, none⟩) n n))))
  rw [hW0]
  clear hW0 hb0 hb1 hb2 i2 mi mm
  generalize w.heap.size + 1 + 1 = B7 at *
  generalize w.heap.size + 1 = M at *
  generalize hLL : w.heap.size = L at *
  refine wp_region_drawn (by kernel_rfl) 9 144 [33, 34, 35, 36, 37, 38, 39, 40, 8] (g8 W0.heap.size L n) rfl (by kernel_rfl) (g8m _ _ _) ?_ ?_
  · intro i o hi ho ys W hys hb hdep
    obtain ⟨y0, y1, y2, y3, y4, y5, y6, y7, y8, rfl⟩ := list9 hys
    have hi' : i = 0 ∨ i = 1 ∨ i = 2 ∨ i = 3 ∨ i = 4 ∨ i = 5 ∨ i = 6 ∨ i = 7 ∨ i = 8 := by omega
    simp only [setM, List.setIfInBounds_toArray, List.set_cons_zero, List.set_cons_succ]
    rcases hi' with rfl | rfl | rfl | rfl | rfl | rfl | rfl | rfl | rfl
    · cases ho
      go_wp2_with fail
      refine (number_any _ _).mono ?_
      rintro e w1 ⟨rfl, hb1⟩
      go_wp2
      exact ⟨rfl, _, rfl, hb1, rfl⟩
    · cases ho
      go_wp2
      exact ⟨rfl, _, rfl, Below.refl _ _, rfl⟩
    · cases ho
      go_wp2
      exact ⟨rfl, _, rfl, Below.refl _ _, rfl⟩
    · cases ho
      obtain rfl : y2 = .int .i64 (n : Int) := hdep 2 (by omega) (by kernel_rfl)
      go_wp2
      exact ⟨rfl, _, rfl, Below.refl _ _, hs1⟩
    · cases ho
      obtain rfl : y1 = .slice (some ⟨L, 0, none⟩) n n := hdep 1 (by omega) (by kernel_rfl)
      obtain rfl : y3 = .int .i64 ((n - 1 : Nat) : Int) := hdep 3 (by omega) (by kernel_rfl)
      go_wp2
      exact ⟨rfl, _, rfl, Below.refl _ _, rfl⟩
    · cases ho
      obtain rfl : y0 = .agg #[.int .i64 3, .string d1] := hdep 0 (by omega) (by kernel_rfl)
      obtain rfl : y4 = .slice (some ⟨L, 0, none⟩) (n - 1) n := hdep 4 (by omega) (by kernel_rfl)
      go_wp2
      exact ⟨rfl, _, rfl, Below.refl _ _, rfl⟩
    · cases ho
      obtain rfl : y5 = .agg #[.int .i64 3, .string d1, .slice (some ⟨L, 0, none⟩) (n - 1) n] := hdep 5 (by omega) (by kernel_rfl)
      go_wp2
      exact ⟨rfl, _, rfl, box1 _ _ _, lite_one (p := lgP (some ⟨L, 0, none⟩) (n - 1) n)⟩
    · cases ho
      have h6 : RdP W [lgP (some ⟨L, 0, none⟩) (n - 1) n] y6 := hdep 6 (by omega) (by kernel_rfl)
      obtain ⟨A6, c6, e6, _⟩ := RdP.form h6
      obtain rfl : y6 = .slice A6 1 c6 := e6
      go_wp2
      exact ⟨rfl, _, rfl, Below.refl _ _, _, rfl, h6⟩
    · cases ho
      go_wp2
      exact ⟨rfl, _, rfl, box1 _ _ _, _, rfl, hp_new rfl, hb.size⟩
  · intro ys W hys hb hall
    obtain ⟨y0, y1, y2, y3, y4, y5, y6, y7, y8, rfl⟩ := list9 hys
    simp only [setM, List.setIfInBounds_toArray, List.set_cons_zero, List.set_cons_succ]
    obtain ⟨u8, rfl, hu8⟩ : ∃ u, y7 = itV (mapR u) ∧ RdP W [lgP (some ⟨L, 0, none⟩) (n - 1) n] u := hall 7 (by omega)
    obtain ⟨B8, rfl, hz8, hl8⟩ : NewB W0.heap.size y8 W := hall 8 (by omega)
    obtain ⟨A8, c8, e8, _⟩ := RdP.form hu8
    obtain rfl : u8 = .slice A8 1 c8 := e8
    clear hall
    simp only [List.drop_succ_cons, List.drop_zero]
    refine wpList_putB rfl (.tmp 8) (.tmp 40) rfl rfl B8 (mapR (.slice A8 1 c8)) rfl rfl hz8 ⟨rfl, rfl, rfl⟩ ?_
    obtain ⟨W1, hW1⟩ : ∃ W1, putB W B8 (mapR (.slice A8 1 c8)) = W1 := ⟨_, rfl⟩
    have hb1 : Below W0.heap.size W0 W1 := hW1 ▸ putB_below hb hl8
    have S1 := Lib.hid (S0.out.go hb1)
    have X71 := Lib.hid (X0.out.go hb1)
    have X81 := Lib.hid (show BI W1 B8 (mapR (.slice A8 1 c8)) from hW1 ▸ putB_bi hz8)
    have P81 := Lib.hid (show RdP W1 [lgP (some ⟨L, 0, none⟩) (n - 1) n] (.slice A8 1 c8) from hW1 ▸ putB_rdp hu8 (show (3 : Int) ≠ 0 by decide) hz8)
    rw [hW1]
    clear hW1 hb1 hz8 hu8 hl8 hb S0 X0
    go_wp2_with fail
    refine wp_region_drawn (by kernel_rfl) 7 144 [41, 42, 43, 44, 45, 46, 9] (g9 W1.heap.size L n) rfl (by kernel_rfl) (g9m _ _ _) ?_ ?_
    · intro i o hi ho ys W hys hb hdep
      obtain ⟨y0, y1, y2, y3, y4, y5, y6, rfl⟩ := list7 hys
      have hi' : i = 0 ∨ i = 1 ∨ i = 2 ∨ i = 3 ∨ i = 4 ∨ i = 5 ∨ i = 6 := by omega
      simp only [setM, List.setIfInBounds_toArray, List.set_cons_zero, List.set_cons_succ]
      rcases hi' with rfl | rfl | rfl | rfl | rfl | rfl | rfl
      · cases ho
        go_wp2_with fail
        refine (number_any _ _).mono ?_
        rintro e w1 ⟨rfl, hb1⟩
        go_wp2
        exact ⟨rfl, _, rfl, hb1, rfl⟩
      · cases ho
        go_wp2
        exact ⟨rfl, _, rfl, Below.refl _ _, rfl⟩
      · cases ho
        obtain rfl : y1 = .slice (some ⟨L, 0, none⟩) n n := hdep 1 (by omega) (by kernel_rfl)
        go_wp2
        exact ⟨rfl, _, rfl, Below.refl _ _, rfl⟩
      · cases ho
        obtain rfl : y0 = .agg #[.int .i64 3, .string d1] := hdep 0 (by omega) (by kernel_rfl)
        obtain rfl : y2 = .slice (some ⟨L, 0, none⟩) 1 n := hdep 2 (by omega) (by kernel_rfl)
        go_wp2
        exact ⟨rfl, _, rfl, Below.refl _ _, rfl⟩
      · cases ho
        obtain rfl : y3 = .agg #[.int .i64 3, .string d1, .slice (some ⟨L, 0, none⟩) 1 n] := hdep 3 (by omega) (by kernel_rfl)
        go_wp2
        exact ⟨rfl, _, rfl, box1 _ _ _, lite_one (p := lgP (some ⟨L, 0, none⟩) 1 n)⟩
      · cases ho
        have h6 : RdP W [lgP (some ⟨L, 0, none⟩) 1 n] y4 := hdep 4 (by omega) (by kernel_rfl)
        obtain ⟨A6, c6, e6, _⟩ := RdP.form h6
        obtain rfl : y4 = .slice A6 1 c6 := e6
        go_wp2
        exact ⟨rfl, _, rfl, Below.refl _ _, _, rfl, h6⟩
      · cases ho
        go_wp2
        exact ⟨rfl, _, rfl, box1 _ _ _, _, rfl, hp_new rfl, hb.size⟩
    · intro ys W hys hb hall
      obtain ⟨y0, y1, y2, y3, y4, y5, y6, rfl⟩ := list7 hys
      simp only [setM, List.setIfInBounds_toArray, List.set_cons_zero, List.set_cons_succ]
      obtain ⟨u9, rfl, hu9⟩ : ∃ u, y5 = itV (mapR u) ∧ RdP W [lgP (some ⟨L, 0, none⟩) 1 n] u := hall 5 (by omega)
      obtain ⟨B9, rfl, hz9, hl9⟩ : NewB W1.heap.size y6 W := hall 6 (by omega)
      obtain ⟨A9, c9, e9, _⟩ := RdP.form hu9
      obtain rfl : u9 = .slice A9 1 c9 := e9
      clear hall
      simp only [List.drop_succ_cons, List.drop_zero]
      refine wpList_putB rfl (.tmp 9) (.tmp 46) rfl rfl B9 (mapR (.slice A9 1 c9)) rfl rfl hz9 ⟨rfl, rfl, rfl⟩ ?_
      obtain ⟨W2, hW2⟩ : ∃ W2, putB W B9 (mapR (.slice A9 1 c9)) = W2 := ⟨_, rfl⟩
      have hb2 : Below W1.heap.size W1 W2 := hW2 ▸ putB_below hb hl9
      have T2 := Lib.hid (show LgT w W2 n L M B7 B8 B9 (.slice A8 1 c8) (.slice A9 1 c9) from ⟨S1.out.go hb2, X71.out.go hb2, X81.out.go hb2, RdRows.below P81.out hb2, hW2 ▸ putB_bi hz9, hW2 ▸ putB_rdp hu9 (show (3 : Int) ≠ 0 by decide) hz9⟩)
      have hok9 : ∃ u, u = Value.slice A9 1 c9 ∧ u.oneCell' = true := ⟨_, rfl, rfl⟩
      rw [hW2]
      clear hW2 hb2 hz9 hu9 hl9 hb S1 X71 X81 P81
      go_wp2_with fail
      refine wp_region_drawn2 (by kernel_rfl) 8 144 [48, 49, 50, 51, 47, 52, 53, 10] [6] (g10 W2.heap.size L n (.slice A9 1 c9) 2) rfl (by kernel_rfl) (g10m _ _ _ _ _) ?_ ?_ ?_ ?_
      · intro i o hi ho ys W hys hb hdep
        obtain ⟨y0, y1, y2, y3, y4, y5, y6, y7, rfl⟩ := list8 hys
        have hi' : i = 0 ∨ i = 1 ∨ i = 2 ∨ i = 3 ∨ i = 4 ∨ i = 5 ∨ i = 6 ∨ i = 7 := by omega
        simp only [setM, List.setIfInBounds_toArray, List.set_cons_zero, List.set_cons_succ]
        rcases hi' with rfl | rfl | rfl | rfl | rfl | rfl | rfl | rfl
        · cases ho
          obtain ⟨l0, l1, l2, l3, l4, l5, l6, l7⟩ := blk8c (T2.out.go hb).x9
          go_wp2
          exact ⟨rfl, _, rfl, Below.refl _ _, rfl⟩
        · cases ho
          go_wp2_with fail
          refine (number_any _ _).mono ?_
          rintro e w1 ⟨rfl, hb1⟩
          go_wp2
          exact ⟨rfl, _, rfl, hb1, rfl⟩
        · cases ho
          go_wp2
          exact ⟨rfl, _, rfl, Below.refl _ _, rfl⟩
        · cases ho
          obtain rfl : y0 = itV (mapR (.slice A9 1 c9)) := hdep 0 (by omega) (by kernel_rfl)
          obtain rfl : y1 = .agg #[.int .i64 3, .string d2] := hdep 1 (by omega) (by kernel_rfl)
          obtain rfl : y2 = .slice (some ⟨L, 0, none⟩) n n := hdep 2 (by omega) (by kernel_rfl)
          have HP := putLg W (by omega) (by omega) (T2.out.go hb).p9 (T2.out.go hb).s.i
          rw [HE.out] at HP
          go_wp2_with fail
          refine HP.mono ?_
          rintro e w1 ⟨⟨x, rfl, hx⟩, hb1⟩
          go_wp2
          exact ⟨rfl, _, rfl, hb1, x, rfl, hx⟩
        · cases ho
          obtain ⟨x, rfl, hx⟩ : ∃ x, y3 = .tuple #[itV x, .int .i64 2] ∧ ROk x := hdep 3 (by omega) (by kernel_rfl)
          go_wp2
          exact ⟨rfl, _, rfl, Below.refl _ _, x, rfl, hx⟩
        · cases ho
          obtain ⟨x, rfl, hx⟩ : ∃ x, y4 = .tuple #[itV x, .int .i64 2] ∧ ROk x := hdep 4 (by omega) (by kernel_rfl)
          go_wp2
          exact ⟨rfl, _, rfl, Below.refl _ _, x, rfl, hx⟩
        · cases ho
          obtain ⟨x, rfl, hx⟩ : ∃ x, y4 = .tuple #[itV x, .int .i64 2] ∧ ROk x := hdep 4 (by omega) (by kernel_rfl)
          go_wp2
          exact ⟨rfl, _, rfl, Below.refl _ _, rfl⟩
        · cases ho
          go_wp2
          exact ⟨rfl, _, rfl, box1 _ _ _, _, rfl, hp_new rfl, hb.size⟩
      · intro i o hl hi ho ys W hys hb hdep
        obtain ⟨y0, y1, y2, y3, y4, y5, y6, y7, rfl⟩ := list8 hys
        simp only [setM, List.setIfInBounds_toArray, List.set_cons_zero, List.set_cons_succ]
        have hi' : i = 6 := by simpa using hl
        rcases hi' with rfl
        · cases ho
          obtain ⟨x, rfl, hx⟩ : ∃ x, y4 = .tuple #[itV x, .int .i64 2] ∧ ROk x := hdep 4 (by omega) (by kernel_rfl)
          go_wp2
          exact ⟨rfl, _, rfl, Below.refl _ _, rfl⟩
      · intro o ho ys W hys hb hdep
        obtain ⟨y0, y1, y2, y3, y4, y5, y6, y7, rfl⟩ := list8 hys
        simp only [setM, List.setIfInBounds_toArray, List.set_cons_zero, List.set_cons_succ]
        cases ho
        obtain ⟨x, rfl, hx⟩ : ∃ x, y5 = itV x ∧ ROk x := hdep 5 (by omega) (by kernel_rfl)
        obtain ⟨B10, rfl, hz10, hl10⟩ : NewB W2.heap.size y7 W := hdep 7 (by omega) (by kernel_rfl)
        refine wpList_putB rfl (.tmp 10) (.tmp 52) rfl rfl B10 x rfl rfl hz10 hx ?_
        refine ⟨rfl, rfl, putB_below hb hl10, fun j hj h => ?_⟩
        match j, hj, h with
        | 0, _, h => exact h
        | 1, _, h => exact h
        | 2, _, h => exact h
        | 3, _, h => exact h
        | 4, _, h => exact h
        | 5, _, h => exact h
        | 6, _, h => exact h
        | 7, _, h => exact trivial
      · intro ys W hys hb hall
        obtain ⟨y0, y1, y2, y3, y4, y5, y6, y7, rfl⟩ := list8 hys
        simp only [setM, List.setIfInBounds_toArray, List.set_cons_zero, List.set_cons_succ]
        obtain rfl : y6 = .int .i64 2 := hall 6 (by omega)
        clear hall
        simp only [List.drop_succ_cons, List.drop_zero]
        have T3 := Lib.hid (T2.out.go hb)
        clear T2 hb
        generalize W = W3 at *
        obtain ⟨l0, l1, l2, l3, l4, l5, l6, l7⟩ := blk8c T3.out.x8
        obtain ⟨m0, m1, m2, m3, m4, m5, m6, m7⟩ := blk8c T3.out.x9
        go_wp2_with fail
        simp only [mapR]
        obtain ⟨W4, hW4⟩ : ∃ W4, W3.alloc (.cells #[.int .i64 2, .int .i64 0, .string { data := #[] }, .int .i64 0, .int .i64 0, .slice A8 1 c8, .slice none 0 0, .pointer none, .int .i64 2, .int .i64 0, .string { data := #[] }, .int .i64 0, .int .i64 0, .slice A9 1 c9, .slice none 0 0, .pointer none] 30) = W4 := ⟨_, rfl⟩
        have hr4 : RdI W4 [mapR (.slice A8 1 c8), mapR (.slice A9 1 c9)] (.slice (some ⟨W3.heap.size, 0, none⟩) 2 2) := hW4 ▸ lite_two
        have hb4 : Below W3.heap.size W3 W4 := hW4 ▸ box1 _ _ _
        have T4 := Lib.hid (T3.out.go hb4)
        rw [hW4]
        have HM := mergeLg W4 (by omega) (by omega) hr4 T4.out.p8 T4.out.p9 T4.out.s.i
        rw [HE.out] at HM
        refine HM.mono ?_
        rintro e w5 ⟨⟨x, rfl, hx⟩, hb5⟩
        have T5 := Lib.hid (T4.out.go hb5)
        clear HM hb5 hr4 hb4 hW4 T3 T4 l0 l1 l2 l3 l4 l5 l6 l7 m0 m1 m2 m3 m4 m5 m6 m7
        obtain ⟨kx, akx, txx, trx, ndx, psx, msx, fnx⟩ := x
        have sps := fun w a m => run_store Tryz.prog w a psx m hx.ps
        have sms := fun w a m => run_store Tryz.prog w a msx m hx.ms
        have sfn := fun w a m => run_store Tryz.prog w a fnx m hx.fn
        have ops := hx.ps
        have oms := hx.ms
        have ofn := hx.fn
        dsimp only at ops oms ofn sps sms sfn
        simp only [itV]
        go_wp2_with fail
        obtain ⟨W6, hW6⟩ : ∃ W6, w5.alloc (.cells #[.int .i64 kx, .int .i64 akx, .string txx, .int .i64 trx, .int .i64 ndx, psx, msx, fnx] 30) = W6 := ⟨_, rfl⟩
        have T6 := Lib.hid (T5.out.go (hW6 ▸ box1 _ _ _))
        rw [hW6]
        clear hW6 T5 sps sms sfn ops oms ofn hx
        have HI := insLg1 W6 (by omega) (by omega) (take_mems T6.out.s.m (k := n - 1) (by omega))
        rw [HE.out] at HI
        refine HI.mono ?_
        rintro e w7 ⟨⟨x2, rfl, hx2, hl2⟩, hb7⟩
        have T7 := Lib.hid (T6.out.go hb7)
        clear HI hb7 T6
        obtain ⟨kx2, akx2, txx2, trx2, ndx2, psx2, msx2, fnx2⟩ := x2
        have sps := fun w a m => run_store Tryz.prog w a psx2 m hx2.ps
        have sms := fun w a m => run_store Tryz.prog w a msx2 m hx2.ms
        have sfn := fun w a m => run_store Tryz.prog w a fnx2 m hx2.fn
        have ops := hx2.ps
        have oms := hx2.ms
        have ofn := hx2.fn
        dsimp only at ops oms ofn sps sms sfn
        simp only [itV]
        go_upto_region 13 with fail
        obtain ⟨W8, hW8⟩ : ∃ W8, w7.alloc (.cells #[.int .i64 kx2, .int .i64 akx2, .string txx2, .int .i64 trx2, .int .i64 ndx2, psx2, msx2, fnx2] 30) = W8 := ⟨_, rfl⟩
        have T8 := Lib.hid (T7.out.go (hW8 ▸ box1 _ _ _))
        have X8 := Lib.hid (show BI W8 w7.heap.size ⟨kx2, akx2, txx2, trx2, ndx2, psx2, msx2, fnx2⟩ from hW8 ▸ hp_new rfl)
        have HL2 := Lib.hid hl2
        rw [hW8]
        clear hW8 T7 sps sms sfn ops oms ofn hx2 hl2
        generalize w7.heap.size = B14 at *
        rw [hs1]
        refine wp_region_drawn2 (by kernel_rfl) 14 144 [71, 72, 73, 74, 75, 76, 77, 78, 79, 80, 70, 81, 82, 16] [12] (g13 W8.heap.size M n 2) rfl (by kernel_rfl) (g13m _ _ _ _) ?_ ?_ ?_ ?_
        · intro i o hi ho ys W hys hb hdep
          obtain ⟨y0, y1, y2, y3, y4, y5, y6, y7, y8, y9, y10, y11, y12, y13, rfl⟩ := list14 hys
          have hi' : i = 0 ∨ i = 1 ∨ i = 2 ∨ i = 3 ∨ i = 4 ∨ i = 5 ∨ i = 6 ∨ i = 7 ∨ i = 8 ∨ i = 9 ∨ i = 10 ∨ i = 11 ∨ i = 12 ∨ i = 13 := by omega
          simp only [setM, List.setIfInBounds_toArray, List.set_cons_zero, List.set_cons_succ]
          rcases hi' with rfl | rfl | rfl | rfl | rfl | rfl | rfl | rfl | rfl | rfl | rfl | rfl | rfl | rfl
          · cases ho
            go_wp2
            exact ⟨rfl, _, rfl, Below.refl _ _, rfl⟩
          · cases ho
            go_wp2
            exact ⟨rfl, _, rfl, Below.refl _ _, rfl⟩
          · cases ho
            obtain rfl : y1 = .int .i64 (n : Int) := hdep 1 (by omega) (by kernel_rfl)
            go_wp2
            exact ⟨rfl, _, rfl, Below.refl _ _, hs1⟩
          · cases ho
            obtain rfl : y0 = .slice (some ⟨M, 0, none⟩) n n := hdep 0 (by omega) (by kernel_rfl)
            obtain rfl : y2 = .int .i64 ((n - 1 : Nat) : Int) := hdep 2 (by omega) (by kernel_rfl)
            go_wp2
            exact ⟨rfl, _, rfl, Below.refl _ _, rfl⟩
          · cases ho
            obtain rfl : y3 = .slice (some ⟨M, 0, none⟩) (n - 1) n := hdep 3 (by omega) (by kernel_rfl)
            go_wp2
            exact ⟨rfl, _, rfl, Below.refl _ _, rfl⟩
          · cases ho
            go_wp2
            exact ⟨rfl, _, rfl, Below.refl _ _, rfl⟩
          · cases ho
            obtain rfl : y5 = .slice (some ⟨M, 0, none⟩) n n := hdep 5 (by omega) (by kernel_rfl)
            go_wp2
            exact ⟨rfl, _, rfl, Below.refl _ _, rfl⟩
          · cases ho
            obtain rfl : y6 = .slice (some ⟨M, 0, none⟩) 1 n := hdep 6 (by omega) (by kernel_rfl)
            go_wp2
            exact ⟨rfl, _, rfl, Below.refl _ _, rfl⟩
          · cases ho
            obtain rfl : y4 = itV (aR (.slice (some ⟨M, 0, none⟩) (n - 1) n)) := hdep 4 (by omega) (by kernel_rfl)
            obtain rfl : y7 = itV (aR (.slice (some ⟨M, 0, none⟩) 1 n)) := hdep 7 (by omega) (by kernel_rfl)
            simp only [itV, aR]
            go_wp2
            exact ⟨rfl, _, rfl, box1 _ _ _, lite_two (x := aR (.slice (some ⟨M, 0, none⟩) (n - 1) n)) (y := aR (.slice (some ⟨M, 0, none⟩) 1 n))⟩
          · cases ho
            have h8 : RdI W [aR (.slice (some ⟨M, 0, none⟩) (n - 1) n), aR (.slice (some ⟨M, 0, none⟩) 1 n)] y8 := hdep 8 (by omega) (by kernel_rfl)
            have HP := joinLg W (by omega) (by omega) h8 (T8.out.go hb).s.m
            rw [HE.out] at HP
            go_wp2_with fail
            refine HP.mono ?_
            rintro e w1 ⟨⟨x, rfl, hx⟩, hb1⟩
            go_wp2
            exact ⟨rfl, _, rfl, hb1, x, rfl, hx⟩
          · cases ho
            obtain ⟨x, rfl, hx⟩ : ∃ x, y9 = .tuple #[itV x, .int .i64 2] ∧ LgX n x := hdep 9 (by omega) (by kernel_rfl)
            go_wp2
            exact ⟨rfl, _, rfl, Below.refl _ _, x, rfl, hx⟩
          · cases ho
            obtain ⟨x, rfl, hx⟩ : ∃ x, y10 = .tuple #[itV x, .int .i64 2] ∧ LgX n x := hdep 10 (by omega) (by kernel_rfl)
            go_wp2
            exact ⟨rfl, _, rfl, Below.refl _ _, x, rfl, hx⟩
          · cases ho
            obtain ⟨x, rfl, hx⟩ : ∃ x, y10 = .tuple #[itV x, .int .i64 2] ∧ LgX n x := hdep 10 (by omega) (by kernel_rfl)
            go_wp2
            exact ⟨rfl, _, rfl, Below.refl _ _, rfl⟩
          · cases ho
            go_wp2
            exact ⟨rfl, _, rfl, box1 _ _ _, _, rfl, hp_new rfl, hb.size⟩
        · intro i o hl hi ho ys W hys hb hdep
          obtain ⟨y0, y1, y2, y3, y4, y5, y6, y7, y8, y9, y10, y11, y12, y13, rfl⟩ := list14 hys
          simp only [setM, List.setIfInBounds_toArray, List.set_cons_zero, List.set_cons_succ]
          have hi' : i = 12 := by simpa using hl
          rcases hi' with rfl
          · cases ho
            obtain ⟨x, rfl, hx⟩ : ∃ x, y10 = .tuple #[itV x, .int .i64 2] ∧ LgX n x := hdep 10 (by omega) (by kernel_rfl)
            go_wp2
            exact ⟨rfl, _, rfl, Below.refl _ _, rfl⟩
        · intro o ho ys W hys hb hdep
          obtain ⟨y0, y1, y2, y3, y4, y5, y6, y7, y8, y9, y10, y11, y12, y13, rfl⟩ := list14 hys
          simp only [setM, List.setIfInBounds_toArray, List.set_cons_zero, List.set_cons_succ]
          cases ho
          obtain ⟨x, rfl, hx⟩ : ∃ x, y11 = itV x ∧ LgX n x := hdep 11 (by omega) (by kernel_rfl)
          obtain ⟨B16, rfl, hz16, hl16⟩ : NewB W8.heap.size y13 W := hdep 13 (by omega) (by kernel_rfl)
          refine wpList_putB rfl (.tmp 16) (.tmp 81) rfl rfl B16 x rfl rfl hz16 hx.1 ?_
          refine ⟨rfl, rfl, putB_below hb hl16, fun j hj h => ?_⟩
          match j, hj, h with
          | 0, _, h => exact h
          | 1, _, h => exact h
          | 2, _, h => exact h
          | 3, _, h => exact h
          | 4, _, h => exact h
          | 5, _, h => exact h
          | 6, _, h => exact h
          | 7, _, h => exact h
          | 8, _, h => exact trivial
          | 9, _, h => exact h
          | 10, _, h => exact h
          | 11, _, h => exact h
          | 12, _, h => exact h
          | 13, _, h => exact ⟨_, _, rfl, putB_bi hz16, hx⟩
        · intro ys W hys hb hall
          obtain ⟨y0, y1, y2, y3, y4, y5, y6, y7, y8, y9, y10, y11, y12, y13, rfl⟩ := list14 hys
          simp only [setM, List.setIfInBounds_toArray, List.set_cons_zero, List.set_cons_succ]
          obtain rfl : y12 = .int .i64 2 := hall 12 (by omega)
          obtain ⟨B16, x16, rfl, hx16, hl16⟩ : ∃ b x, y13 = .pointer (some ⟨b, 0, none⟩) ∧ BI W b x ∧ LgX n x := hall 13 (by omega)
          clear hall
          simp only [List.drop_succ_cons, List.drop_zero]
          have T9 := Lib.hid (T8.out.go hb)
          have X9 := Lib.hid (X8.out.go hb)
          have Y9 := Lib.hid hx16
          have HL3 := Lib.hid hl16.2
          clear T8 X8 hb hx16 hl16
          generalize W = W9 at *
          go_wp2_with fail
          have HI := insLg2 W9 (by omega) (by omega) T9.out.s.i
          rw [HE.out] at HI
          refine HI.mono ?_
          rintro e w10 ⟨⟨x, rfl, hx⟩, hb10⟩
          have T10 := Lib.hid (T9.out.go hb10)
          have X10 := Lib.hid (X9.out.go hb10)
          have Y10 := Lib.hid (Y9.out.go hb10)
          clear HI hb10 T9 X9 Y9
          obtain ⟨l0, l1, l2, l3, l4, l5, l6, l7⟩ := blk8c T10.out.x7
          have hB7 : B7 < w10.heap.size := lt_of_block T10.out.x7
          obtain ⟨kx, akx, txx, trx, ndx, psx, msx, fnx⟩ := x
          have sps := fun w a m => run_store Tryz.prog w a psx m hx.ps
          have sms := fun w a m => run_store Tryz.prog w a msx m hx.ms
          have sfn := fun w a m => run_store Tryz.prog w a fnx m hx.fn
          have ops := hx.ps
          have oms := hx.ms
          have ofn := hx.fn
          dsimp only at ops oms ofn sps sms sfn
          simp only [itV]
          go_wp2_with fail
          simp only [aR]
          obtain ⟨W11, hW11⟩ : ∃ W11, w10.alloc (.cells #[.int .i64 kx, .int .i64 akx, .string txx, .int .i64 trx, .int .i64 ndx, psx, msx, fnx] 30) = W11 := ⟨_, rfl⟩
          have hb11 : Below w10.heap.size w10 W11 := hW11 ▸ box1 _ _ _
          have hs11 : W11.heap.size = w10.heap.size + 1 := by rw [← hW11]; simp
          rw [hW11, ← hs11]
          have hm11 := lite_mem (W := W11) (v := .slice (some ⟨L, 0, none⟩) n n)
          have hb12 := box1 W11 22 #[.slice (some ⟨L, 0, none⟩) n n]
          obtain ⟨W12, hW12⟩ : ∃ W12, W11.alloc (.cells #[.slice (some ⟨L, 0, none⟩) n n] 22) = W12 := ⟨_, rfl⟩
          have hs12 : W12.heap.size = W11.heap.size + 1 := by rw [← hW12]; simp
          rw [hW12] at hm11 hb12 ⊢
          rw [← hs12]
          have hr12 := lite_two (W := W12) (x := aR (.slice (some ⟨W11.heap.size, 0, none⟩) 1 1)) (y := aR (.slice (some ⟨M, 0, none⟩) n n))
          simp only [aR] at hr12
          obtain ⟨W13, hW13⟩ : ∃ W13, W12.alloc (.cells #[.int .i64 3, .int .i64 0, .string { data := #[] }, .int .i64 0, .int .i64 0, .slice none 0 0, .slice (some ⟨W11.heap.size, 0, none⟩) 1 1, .pointer none, .int .i64 3, .int .i64 0, .string { data := #[] }, .int .i64 0, .int .i64 0, .slice none 0 0, .slice (some ⟨M, 0, none⟩) n n, .pointer none] 30) = W13 := ⟨_, rfl⟩
          have hb13 : Below W12.heap.size W12 W13 := hW13 ▸ box1 _ _ _
          rw [hW13] at hr12 ⊢
          have hbb : Below w10.heap.size w10 W13 := hb11.trans ((hb12.mono (by omega)).trans (hb13.mono (by omega)))
          have T13 := Lib.hid (T10.out.go hbb)
          have X13 := Lib.hid (X10.out.go hbb)
          have Y13 := Lib.hid (Y10.out.go hbb)
          refine (flatLg W13 (by omega) (by omega) hr12 (RdRows.below hm11 hb13) T13.out.s.i T13.out.s.m).mono ?_
          rintro e w14 ⟨⟨A15, c15, rfl⟩, hb14⟩
          have B14' := Lib.hid ((T13.out.s.b).trans (hb14.mono T13.out.s.b.size))
          have X14 := Lib.hid (X13.out.go hb14)
          have Y14 := Lib.hid (Y13.out.go hb14)
          clear hb14 hbb hb11 hb12 hb13 hr12 hm11 hs11 hs12 hW11 hW12 hW13 T10 T13 X10 X13 Y10 Y13 sps sms sfn ops oms ofn hx l0 l1 l2 l3 l4 l5 l6 l7 hB7
          rw [show min n 65536 = 65536 from Nat.min_eq_right (by have := HLE.out; omega)]
          have hmin := min_gt n HLE.out
          go_wp2_with fail
          refine (works_any _).mono ?_
          rintro e w15 ⟨rfl, hb15⟩
          have HB15 := Lib.hid (B14'.out.trans (hb15.mono B14'.out.size))
          clear hb15
          go_wp2
          go_ret
          exact ⟨rB rfl, HB15.out⟩
theorem mapsLong_any (q : Nat) (hq : q < 256) (w : World) : Calls Tryz.prog 3 #[.int .u8 (q : Int)] w fun e w' => e = .returned (.bool true) ∧ Below w.heap.size w w' := by
  by_cases h : 65534 + q % 4 ≤ 65536
  · exact long_le q _ hq rfl h w
  · exact long_gt q _ hq rfl (by omega) w
end Go.Proofs.YtahidclhplmkiaaGreatDoor
