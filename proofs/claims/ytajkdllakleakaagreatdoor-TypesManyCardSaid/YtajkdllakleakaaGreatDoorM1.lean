/- Small laws on memory that a call makes, for any text of this seat. -/
import Derived.Test.YtajkdllakleakaaGreatDoorProg
import Derived.WalkKit
import Derived.WalkLawsBesides
import Derived.WalkSpells
import Derived.Handy
import Derived.Lib.Hide
import Derived.Deep.AppendLies
import Derived.Deep.Onto
import Derived.Laws.MakeOwn
import Derived.Deep.OwnRows
import Derived.Deep.RegionLaw
import Derived.Deep.RegionLawGrows
import Derived.Deep.QuietTactic
import Derived.BigQuiet
import Derived.Laws.IdiomStrings
import Derived.IntWalk
namespace Go.Proofs.YtajkdllakleakaaGreatDoor
open Go.RowKit
set_option linter.unusedVariables false
set_option linter.unusedSimpArgs false

theorem rB {a b : Bool} (h : a = b) : Ending.returned (.bool a) = .returned (.bool b) := by rw [h]
theorem rI {k : IntKind} {a b : Int} (h : a = b) : Ending.returned (.int k a) = .returned (.int k b) := by rw [h]
theorem vI {k : IntKind} {a b : Int} (h : a = b) : Value.int k a = .int k b := by rw [h]
theorem bel_dn {B : Nat} {a w : World} (h : Below B a w) (n : Nat) : Below B a (w.drewN n) := ⟨h.os, h.tape, h.output, h.size, h.block⟩
theorem belCell {W w1 : World} (hb : Below W.heap.size W w1) : (∀ b o, b < W.heap.size → w1.cell? ⟨b, o, none⟩ = W.cell? ⟨b, o, none⟩) ∧ (∀ b o, b < W.heap.size → w1.frozen? ⟨b, o, none⟩ = W.frozen? ⟨b, o, none⟩) :=
  ⟨fun b o h => hb.cell (p := ⟨b, o, none⟩) h, fun b o h => hb.frozen (p := ⟨b, o, none⟩) h⟩
theorem grB {w w1 : World} (h : Below w.heap.size w w1) (row : Option Nat) : w.grownBy w1 row := ⟨h.os, h.tape, h.output, h.size, fun i hi _ => h.block i hi⟩
theorem ownB {w w1 : World} {base : Nat} {e : TypeId} {size n : Nat} {v : Value} {xs : List Value} (h : w.ownsRow base e size v n xs) (hb : Below w.heap.size w w1) : w1.ownsRow base e size v n xs :=
  h.kept (grB hb none) (by cases v.ownBlock <;> simp)
theorem belG {B : Nat} {w w1 w2 : World} {v : Value} {base : Nat} {e : TypeId} {size n : Nat} {xs : List Value} (h : Below B w w1) (hB : B ≤ w1.heap.size) (hg : w1.grownBy w2 v.ownBlock) (ho : w1.ownsRow base e size v n xs) (hbb : B ≤ base) : Below B w w2 :=
  h.grown hg hB fun k hk => Nat.le_trans hbb (ho.lt k hk).1
theorem below_to {w W : World} {o : Obj} (h : Below (w.alloc o).heap.size (w.alloc o) W) : Below w.heap.size w W :=
  ((Below.refl _ _).alloc (Nat.le_refl _) o).trans (h.mono (by simp))

/-- append of one element, which stands in a new block, to a row of the call's own. -/
theorem app1 {P : Program} {ops : Array Oper} {rest : List Oper} {o : Oper} {a : Act} {Q : Exit → Act → World → Prop} {W : World} (base : Nat) (hgd : o.guard = none) (s x : Operand) (t e : TypeId) (z : Value) (bytes : Nat)
    (ho : o.op = .call { callee := .builtin .append, args := #[s, x], argTypes := #[t, t] })
    (ht : P.underlying t = some (.slice e)) (hinfo : (P.info? e).map (fun i => (i.zero, i.size, i.bytes)) = some (some z, 1, bytes)) (hz : z.cells.size = 1)
    (v : Value) (n : Nat) (xs : List Value) (hs : a.eval s = v) (B : Nat) (hB : W.heap.size = B) (y : Value) (hx : a.eval x = .slice (some ⟨B, 0, none⟩) 1 1) (h1 : y.oneCell' = true)
    (HO : W.ownsRow base e 1 v n xs) (hbase : base ≤ W.heap.size) (hl : (n + 1) * bytes ≤ 140737488355328) (hm : n + 1 ≤ maxLen)
    (h : ∀ g cap w1, w1.ownsRow base e 1 (.slice (some ⟨g, 0, none⟩) (n + 1) cap) (n + 1) (xs ++ [y]) → (W.alloc (.cells #[y] e)).grownBy w1 v.ownBlock → (v.ownBlock = some g ∨ g = B + 1) → g < w1.heap.size →
      wpList P ops Q rest (a.put o.dst (.slice (some ⟨g, 0, none⟩) (n + 1) cap)) w1) :
    wpList P ops Q (o :: rest) a (W.alloc (.cells #[y] e)) := by
  obtain ⟨i0, hi, hz0, hz1, hz2⟩ := info_parts hinfo
  subst hB
  exact wpList_append_lies (W.alloc (.cells #[y] e)) hgd s x t ho base e i0 z 1 bytes ht hi hz0 hz1 hz2 hz (by decide) v n xs hs (HO.alloc _) ⟨W.heap.size, 0, none⟩ 1 1 [y] hx rfl
    (World.news_of_block (cs := #[y]) (t := e) (fr := (0, 0)) (heap_alloc_new W _)) (by simpa using h1) (by decide) hm hl (by simp; omega) (W.heap.size + 1) (by simp) h
/-- What one append leaves: the row, grown, and all else as it was. -/
theorem app1_end {w W w1 : World} {base : Nat} {e : TypeId} {v y : Value} {n : Nat} {xs : List Value} (hb : Below base w W) (hB : base ≤ W.heap.size) (HO : W.ownsRow base e 1 v n xs) (hg : (W.alloc (.cells #[y] e)).grownBy w1 v.ownBlock) : Below base w w1 :=
  belG (hb.alloc hB _) (by simp; omega) hg (HO.alloc _) (Nat.le_refl _)
theorem st_same {w : World} {a : Addr} {u v : Value} (h : w.cell? a = some u) : (w.setCell a v).cell? a = some v := by
  first | exact World.cell?_setCell_same w a v h | exact World.cell?_setCell_same (h := h) ..
theorem st_other {w : World} {a b : Addr} {v : Value} (h : a ≠ b) : (w.setCell a v).cell? b = w.cell? b := by
  first | exact World.cell?_setCell_other w a b v h | exact World.cell?_setCell_other (h := h) ..
def lenOf (v : Value) : Nat := match v with | .slice _ m _ => m | _ => 0
theorem hp_new {w : World} {o : Obj} {B : Nat} (h : w.heap.size = B) : (w.alloc o).heap[B]? = some o := by subst h; exact heap_alloc_new w o
theorem hp_past {w : World} {o x : Obj} {B : Nat} (h : w.heap[B]? = some x) : (w.alloc o).heap[B]? = some x := by
  have hlt := (Array.getElem?_eq_some_iff.1 h).1
  show (w.heap.push o)[B]? = some x
  rw [Array.getElem?_push, if_neg (by omega)]; exact h
theorem heap_dr1 {W : World} {k : Nat} {o : Obj} (h : W.heap[k]? = some o) : W.drew.heap[k]? = some o := h
/-- A row that one operation of a region appends to, whatever the region's order. -/
structure OneR (w0 W : World) (base : Nat) (e : TypeId) (v : Value) (n : Nat) (xs : List Value) : Prop where
  row : W.ownsRow base e 1 v n xs
  b : Below base w0 W
  z : base ≤ W.heap.size
theorem OneR.alloc {w0 W : World} {base n : Nat} {e : TypeId} {v : Value} {xs : List Value} {o : Obj} (h : OneR w0 W base e v n xs) : OneR w0 (W.alloc o) base e v n xs :=
  ⟨h.row.alloc o, h.b.alloc h.z o, Nat.le_trans h.z (by simp)⟩
theorem OneR.drew {w0 W : World} {base n : Nat} {e : TypeId} {v : Value} {xs : List Value} (h : OneR w0 W base e v n xs) : OneR w0 W.drew base e v n xs :=
  ⟨ownB h.row ((Below.refl _ _).drew), h.b.drew, h.z⟩
theorem OneR.drewN {w0 W : World} {base n m : Nat} {e : TypeId} {v : Value} {xs : List Value} (h : OneR w0 W base e v n xs) : OneR w0 (W.drewN m) base e v n xs :=
  ⟨ownB h.row (bel_dn (Below.refl _ _) m), bel_dn h.b m, h.z⟩
theorem OneR.app {w0 W wa : World} {base n n' : Nat} {e : TypeId} {v v' : Value} {xs xs' : List Value} (ho : wa.ownsRow base e 1 v' n' xs') (hg : W.grownBy wa v.ownBlock) (h : OneR w0 W base e v n xs) : OneR w0 wa base e v' n' xs' :=
  ⟨ho, belG h.b h.z hg h.row (Nat.le_refl _), Nat.le_trans h.z hg.size⟩
/-- The region's operation that writes slot d. -/
theorem at_one (d : Nat) {P : Program} {ops : Array Oper} {op : Op} {ty : TypeId} {pos : String} {after : Array Edge} {g : Option (Nat × Bool)} {a : Act} {w : World} {K : Act → World → Prop} {Q : Exit → Act → World → Prop} {E : Prop}
    {w0 : World} {base n : Nat} {e : TypeId} {v : Value} {xs : List Value} (hT : OneR w0 w base e v n xs)
    (h : OneR w0 w base e v n xs → if Region.wanted ⟨some d, op, ty, pos, after, g⟩ (yielded ops a.tmps) = true then Oper.wp P ⟨some d, op, ty, pos, after, g⟩ a w K Q else E) :
    if Region.wanted ⟨some d, op, ty, pos, after, g⟩ (yielded ops a.tmps) = true then Oper.wp P ⟨some d, op, ty, pos, after, g⟩ a w K Q else E := h hT
end Go.Proofs.YtajkdllakleakaaGreatDoor
/- Items in memory: what a sequence of items reads as, its size, and its flattened rows. -/
namespace Go.Proofs.YtajkdllakleakaaGreatDoor
open Go.RowKit
set_option linter.unusedVariables false
set_option linter.unusedSimpArgs false

/-- The cells of an item. -/
structure IRow where
  k : Int
  ak : Int
  tx : ByteArray
  tr : Int
  nd : Int
  ps : Value
  ms : Value
  fn : Value
def IRow.cells (r : IRow) : List Value := [.int .i64 r.k, .int .i64 r.ak, .string r.tx, .int .i64 r.tr, .int .i64 r.nd, r.ps, r.ms, r.fn]
/-- The cells of an entry of a map. -/
structure PRow where
  ak : Int
  tx : ByteArray
  v : Value
def PRow.cells (p : PRow) : List Value := [.int .i64 p.ak, .string p.tx, p.v]
/-- The cells of a variable. -/
structure BRow where
  nm : ByteArray
  v : Value
def BRow.cells (p : BRow) : List Value := [.string p.nm, p.v]

/-- A slice value whose elements, of `wd` cells each, read as the rows. -/
def Capd (A : Option Addr) (n c : Nat) : Prop := (A = none → c = 0) ∧ n ≤ c ∧ c ≤ maxLen
def RdRows (w : World) (wd : Nat) (rows : List (List Value)) (v : Value) : Prop :=
  ∃ A c, v = .slice A rows.length c ∧ Capd A rows.length c ∧ (0 < rows.length → ∃ b off, A = some ⟨b, off, none⟩ ∧ b < w.heap.size ∧
    ∀ j, j < rows.length → ∀ i, i < wd → w.cell? ⟨b, off + j * wd + i, none⟩ = some ((rows.getD j []).getD i undef))
def RdI (w : World) (l : List IRow) (v : Value) : Prop := RdRows w 8 (l.map IRow.cells) v
def RdP (w : World) (l : List PRow) (v : Value) : Prop := RdRows w 3 (l.map PRow.cells) v
def RdF (w : World) (l : List BRow) (v : Value) : Prop := RdRows w 2 (l.map BRow.cells) v
def RdM (w : World) (l : List Value) (v : Value) : Prop := RdRows w 1 (l.map fun x => [x]) v

theorem RdRows.below {w w1 : World} {wd : Nat} {rows : List (List Value)} {v : Value} (h : RdRows w wd rows v) (hb : Below w.heap.size w w1) : RdRows w1 wd rows v := by
  obtain ⟨A, c, e, hm, h⟩ := h
  refine ⟨A, c, e, hm, fun hn => ?_⟩
  obtain ⟨b, off, e, hlt, hc⟩ := h hn
  have hs := hb.size
  exact ⟨b, off, e, by omega, fun j hj i hi => (hb.cell (p := ⟨b, _, none⟩) hlt).trans (hc j hj i hi)⟩
theorem RdRows.nil (w : World) (wd : Nat) (A : Option Addr) (c : Nat) (h : Capd A 0 c) : RdRows w wd [] (.slice A 0 c) := ⟨A, c, rfl, h, fun h => absurd h (by simp)⟩

/-- Sizes, bytes and rows, added up over a list. -/
inductive SumR {α : Type} (P : α → Nat → Nat → List IRow → Prop) : List α → Nat → Nat → List IRow → Prop
  | nil : SumR P [] 0 0 []
  | cons {x : α} {l : List α} {n b n' b' : Nat} {f f' : List IRow} : P x n b f → SumR P l n' b' f' → SumR P (x :: l) (n + n') (b + b') (f ++ f')
theorem SumR.mono {α : Type} {P Q : α → Nat → Nat → List IRow → Prop} (h : ∀ x n b f, P x n b f → Q x n b f) {l : List α} {n b : Nat} {f : List IRow} (H : SumR P l n b f) : SumR Q l n b f := by
  induction H with
  | nil => exact .nil
  | cons h1 _ ih => exact .cons (h _ _ _ _ h1) ih
theorem SumR.append {α : Type} {P : α → Nat → Nat → List IRow → Prop} {l l' : List α} {n b n' b' : Nat} {f f' : List IRow} (H : SumR P l n b f) (H' : SumR P l' n' b' f') : SumR P (l ++ l') (n + n') (b + b') (f ++ f') := by
  induction H with
  | nil => simpa using H'
  | cons h1 _ ih => rw [Nat.add_assoc, Nat.add_assoc, List.append_assoc]; exact .cons h1 ih
theorem SumR.one {α : Type} {P : α → Nat → Nat → List IRow → Prop} {x : α} {n b : Nat} {f : List IRow} (h : P x n b f) : SumR P [x] n b f := by
  have := SumR.cons h (SumR.nil (P := P))
  simpa using this
theorem SumR.head {α : Type} {P : α → Nat → Nat → List IRow → Prop} {x : α} {l : List α} {n b : Nat} {f : List IRow} (H : SumR P (x :: l) n b f) : ∃ n1 b1 f1 n2 b2 f2, P x n1 b1 f1 ∧ SumR P l n2 b2 f2 ∧ n = n1 + n2 ∧ b = b1 + b2 ∧ f = f1 ++ f2 := by
  cases H with
  | cons h1 h2 => exact ⟨_, _, _, _, _, _, h1, h2, rfl, rfl, rfl⟩
theorem SumR.empty {α : Type} {P : α → Nat → Nat → List IRow → Prop} {n b : Nat} {f : List IRow} (H : SumR P [] n b f) : n = 0 ∧ b = 0 ∧ f = [] := by
  cases H with
  | nil => exact ⟨rfl, rfl, rfl⟩
theorem SumR.split {α : Type} {P : α → Nat → Nat → List IRow → Prop} : ∀ (l l' : List α) {n b : Nat} {f : List IRow}, SumR P (l ++ l') n b f → ∃ n1 b1 f1 n2 b2 f2, SumR P l n1 b1 f1 ∧ SumR P l' n2 b2 f2 ∧ n = n1 + n2 ∧ b = b1 + b2 ∧ f = f1 ++ f2
  | [], l', n, b, f, H => ⟨0, 0, [], n, b, f, .nil, H, by simp, by simp, by simp⟩
  | x :: l, l', n, b, f, H => by
    obtain ⟨n1, b1, f1, n2, b2, f2, h1, h2, rfl, rfl, rfl⟩ := H.head
    obtain ⟨n3, b3, f3, n4, b4, f4, h3, h4, rfl, rfl, rfl⟩ := SumR.split l l' h2
    exact ⟨n1 + n3, b1 + b3, f1 ++ f3, n4, b4, f4, .cons h1 h3, h4, by omega, by omega, by simp⟩
theorem SumR.mem {α : Type} {P : α → Nat → Nat → List IRow → Prop} {l : List α} {n b : Nat} {f : List IRow} (H : SumR P l n b f) : ∀ x, x ∈ l → ∃ n1 b1 f1, P x n1 b1 f1 ∧ n1 ≤ n ∧ b1 ≤ b := by
  induction H with
  | nil => intro x hx; cases hx
  | cons h1 _ ih =>
    intro x hx
    rcases List.mem_cons.1 hx with rfl | hx
    · exact ⟨_, _, _, h1, by omega, by omega⟩
    · obtain ⟨n1, b1, f1, h2, h3, h4⟩ := ih x hx
      exact ⟨n1, b1, f1, h2, by omega, by omega⟩

/-- One item: `G` is what is asked of a sequence inside it. -/
def ItQ (w : World) (G : Value → Nat → Nat → List IRow → Prop) (r : IRow) (n b : Nat) (f : List IRow) : Prop :=
  (r.k = 0 ∧ n = 1 ∧ b = r.tx.size ∧ f = [r]) ∨
  (r.k = 1 ∧ n = 1 ∧ b = 0 ∧ f = [r]) ∨
  (r.k = 2 ∧ f = [r] ∧ ∃ ps n' f', RdP w ps r.ps ∧ SumR (fun p n b f => ∃ n' b', G p.v n' b' f ∧ n = 1 + n' ∧ b = p.tx.size + b') ps n' b f' ∧ n = 1 + n') ∨
  (r.k = 3 ∧ ∃ ms n', RdM w ms r.ms ∧ SumR (fun v n b f => ∃ n', G v n' b f ∧ n = 1 + n') ms n' b f ∧ n = 1 + n') ∨
  (r.k = 4 ∧ f = [r] ∧ ((r.fn = .pointer none ∧ n = 1 ∧ b = 0) ∨ ∃ bk off hv vs n' f', r.fn = .pointer (some ⟨bk, off, none⟩) ∧ bk < w.heap.size ∧ w.cell? ⟨bk, off + 19, none⟩ = some hv ∧ RdF w vs hv ∧ SumR (fun p n b f => ∃ n', G p.v n' b f ∧ n = 1 + n') vs n' b f' ∧ n = 1 + n')) ∨
  ((r.k < 0 ∨ 4 < r.k) ∧ f = [r] ∧ n = 1 ∧ b = 0 ∧ ∃ ms, RdM w ms r.ms ∧ ∀ m, m ∈ ms → ∃ n b f, G m n b f)
/-- What stands in an item is one cell each. -/
structure ROk (r : IRow) : Prop where
  ps : r.ps.oneCell' = true
  ms : r.ms.oneCell' = true
  fn : r.fn.oneCell' = true
def ItP (w : World) (G : Value → Nat → Nat → List IRow → Prop) (r : IRow) (n b : Nat) (f : List IRow) : Prop := ROk r ∧ ItQ w G r n b f
/-- A sequence, nested at most `d` deep, of a size, of bytes, with its flattened rows. -/
def SqR (w : World) : Nat → Value → Nat → Nat → List IRow → Prop
  | 0, _, _, _, _ => False
  | d + 1, v, n, b, f => ∃ l, RdI w l v ∧ SumR (ItP w (SqR w d)) l n b f
def SqOK (w : World) (v : Value) : Prop := ∃ d n b f, SqR w d v n b f

theorem ItQ.mono {w : World} {G G' : Value → Nat → Nat → List IRow → Prop} (h : ∀ v n b f, G v n b f → G' v n b f) {r : IRow} {n b : Nat} {f : List IRow} (H : ItQ w G r n b f) : ItQ w G' r n b f := by
  rcases H with H | H | ⟨h1, h2, ps, n', f', h3, h4, h5⟩ | ⟨h1, ms, n', h3, h4, h5⟩ | ⟨h1, h2, H | ⟨bk, off, hv, vs, n', f', h3, h4, h5, h6, h7, h8⟩⟩ | ⟨h1, h2, h3, h4, ms, h5, h6⟩
  · exact .inl H
  · exact .inr (.inl H)
  · exact .inr (.inr (.inl ⟨h1, h2, ps, n', f', h3, h4.mono fun x n b f ⟨n', b', g, e⟩ => ⟨n', b', h _ _ _ _ g, e⟩, h5⟩))
  · exact .inr (.inr (.inr (.inl ⟨h1, ms, n', h3, h4.mono fun x n b f ⟨n', g, e⟩ => ⟨n', h _ _ _ _ g, e⟩, h5⟩)))
  · exact .inr (.inr (.inr (.inr (.inl ⟨h1, h2, .inl H⟩))))
  · exact .inr (.inr (.inr (.inr (.inl ⟨h1, h2, .inr ⟨bk, off, hv, vs, n', f', h3, h4, h5, h6, h7.mono fun x n b f ⟨n', g, e⟩ => ⟨n', h _ _ _ _ g, e⟩, h8⟩⟩))))
  · exact .inr (.inr (.inr (.inr (.inr ⟨h1, h2, h3, h4, ms, h5, fun m hm => let ⟨n, b, f, g⟩ := h6 m hm; ⟨n, b, f, h _ _ _ _ g⟩⟩))))
theorem ItQ.below {w w1 : World} (hb : Below w.heap.size w w1) {G : Value → Nat → Nat → List IRow → Prop} {r : IRow} {n b : Nat} {f : List IRow} (H : ItQ w G r n b f) : ItQ w1 G r n b f := by
  rcases H with H | H | ⟨h1, h2, ps, n', f', h3, h4, h5⟩ | ⟨h1, ms, n', h3, h4, h5⟩ | ⟨h1, h2, H | ⟨bk, off, hv, vs, n', f', h3, h4, h5, h6, h7, h8⟩⟩ | ⟨h1, h2, h3, h4, ms, h5, h6⟩
  · exact .inl H
  · exact .inr (.inl H)
  · exact .inr (.inr (.inl ⟨h1, h2, ps, n', f', RdRows.below h3 hb, h4, h5⟩))
  · exact .inr (.inr (.inr (.inl ⟨h1, ms, n', RdRows.below h3 hb, h4, h5⟩)))
  · exact .inr (.inr (.inr (.inr (.inl ⟨h1, h2, .inl H⟩))))
  · exact .inr (.inr (.inr (.inr (.inl ⟨h1, h2, .inr ⟨bk, off, hv, vs, n', f', h3, by have := hb.size; omega, (hb.cell (p := ⟨bk, _, none⟩) h4).trans h5, RdRows.below h6 hb, h7, h8⟩⟩))))
  · exact .inr (.inr (.inr (.inr (.inr ⟨h1, h2, h3, h4, ms, RdRows.below h5 hb, h6⟩))))
theorem ItP.mono {w : World} {G G' : Value → Nat → Nat → List IRow → Prop} (h : ∀ v n b f, G v n b f → G' v n b f) {r : IRow} {n b : Nat} {f : List IRow} (H : ItP w G r n b f) : ItP w G' r n b f := ⟨H.1, ItQ.mono h H.2⟩
theorem ItP.below {w w1 : World} (hb : Below w.heap.size w w1) {G : Value → Nat → Nat → List IRow → Prop} {r : IRow} {n b : Nat} {f : List IRow} (H : ItP w G r n b f) : ItP w1 G r n b f := ⟨H.1, ItQ.below hb H.2⟩
theorem SqR.below {w w1 : World} (hb : Below w.heap.size w w1) : ∀ d {v : Value} {n b : Nat} {f : List IRow}, SqR w d v n b f → SqR w1 d v n b f
  | 0, _, _, _, _, h => h
  | d + 1, v, n, b, f, ⟨l, h1, h2⟩ => ⟨l, RdRows.below h1 hb, h2.mono fun r n b f h => (h.below hb).mono fun v n b f g => SqR.below hb d g⟩
theorem SqR.succ {w : World} : ∀ d {v : Value} {n b : Nat} {f : List IRow}, SqR w d v n b f → SqR w (d + 1) v n b f
  | 0, _, _, _, _, h => h.elim
  | d + 1, v, n, b, f, ⟨l, h1, h2⟩ => ⟨l, h1, h2.mono fun r n b f h => h.mono fun v n b f g => SqR.succ d g⟩
theorem SqR.le {w : World} {d d' : Nat} (hd : d ≤ d') {v : Value} {n b : Nat} {f : List IRow} (h : SqR w d v n b f) : SqR w d' v n b f := by
  induction hd with
  | refl => exact h
  | step _ ih => exact SqR.succ _ ih
theorem SqOK.below {w w1 : World} (hb : Below w.heap.size w w1) {v : Value} (h : SqOK w v) : SqOK w1 v :=
  let ⟨d, n, b, f, h⟩ := h; ⟨d, n, b, f, SqR.below hb d h⟩

/-- An item that is not an array comes as itself. -/
theorem ItQ.self {w : World} {G : Value → Nat → Nat → List IRow → Prop} {r : IRow} {n b : Nat} {f : List IRow} (H : ItQ w G r n b f) (h : r.k ≠ 3) : f = [r] := by
  rcases H with H | H | H | H | H | H
  · exact H.2.2.2
  · exact H.2.2.2
  · exact H.2.1
  · exact absurd H.1 h
  · exact H.2.1
  · exact H.2.1
theorem ItP.self {w : World} {G : Value → Nat → Nat → List IRow → Prop} {r : IRow} {n b : Nat} {f : List IRow} (H : ItP w G r n b f) (h : r.k ≠ 3) : f = [r] := ItQ.self H.2 h
/-- The flattened rows: no arrays; and they are items themselves, of no greater size. -/
theorem SqR.flat {w : World} : ∀ d {v : Value} {n b : Nat} {f : List IRow}, SqR w d v n b f → (∀ r, r ∈ f → r.k ≠ 3) ∧ ∃ n' b', n' ≤ n ∧ b' ≤ b ∧ SumR (ItP w (SqR w d)) f n' b' f
  | 0, _, _, _, _, h => h.elim
  | d + 1, v, n, b, f, ⟨l, _, h2⟩ => by
    have key : ∀ l n b f, SumR (ItP w (SqR w d)) l n b f → (∀ r, r ∈ f → r.k ≠ 3) ∧ ∃ n' b', n' ≤ n ∧ b' ≤ b ∧ SumR (ItP w (SqR w (d + 1))) f n' b' f := by
      intro l
      induction l with
      | nil =>
        intro n b f h
        obtain ⟨rfl, rfl, rfl⟩ := h.empty
        exact ⟨fun r hr => (by cases hr), 0, 0, Nat.le_refl _, Nat.le_refl _, .nil⟩
      | cons x l ih =>
        intro n b f h
        obtain ⟨n1, b1, f1, n2, b2, f2, h1, h2, rfl, rfl, rfl⟩ := h.head
        obtain ⟨i1, n3, b3, i2, i3, i4⟩ := ih _ _ _ h2
        by_cases hx : x.k = 3
        · rcases h1.2 with H | H | H | ⟨_, ms, m', hM, hS, e⟩ | H | H
          · exact absurd H.1 (by omega)
          · exact absurd H.1 (by omega)
          · exact absurd H.1 (by omega)
          · have inner : ∀ ms m b f, SumR (fun v n b f => ∃ n', SqR w d v n' b f ∧ n = 1 + n') ms m b f → (∀ r, r ∈ f → r.k ≠ 3) ∧ ∃ n' b', n' ≤ m ∧ b' ≤ b ∧ SumR (ItP w (SqR w (d + 1))) f n' b' f := by
              intro ms
              induction ms with
              | nil =>
                intro m b f h
                obtain ⟨rfl, rfl, rfl⟩ := h.empty
                exact ⟨fun r hr => (by cases hr), 0, 0, Nat.le_refl _, Nat.le_refl _, .nil⟩
              | cons y ms ihm =>
                intro m b f h
                obtain ⟨m1, c1, g1, m2, c2, g2, ⟨m3, k1, rfl⟩, k2, rfl, rfl, rfl⟩ := h.head
                obtain ⟨j1, p3, q3, j2, j3, j4⟩ := ihm _ _ _ k2
                obtain ⟨o1, p4, q4, o2, o3, o4⟩ := SqR.flat d k1
                refine ⟨fun r hr => ?_, p4 + p3, q4 + q3, by omega, by omega, SumR.append (o4.mono fun r n b f h => h.mono fun v n b f g => SqR.succ d g) j4⟩
                rcases List.mem_append.1 hr with hr | hr
                · exact o1 r hr
                · exact j1 r hr
            obtain ⟨j1, p3, q3, j2, j3, j4⟩ := inner _ _ _ _ hS
            refine ⟨fun r hr => ?_, p3 + n3, q3 + b3, by omega, by omega, SumR.append j4 i4⟩
            rcases List.mem_append.1 hr with hr | hr
            · exact j1 r hr
            · exact i1 r hr
          · exact absurd H.1 (by omega)
          · rcases H.1 with H | H <;> exact absurd hx (by omega)
        · have e := h1.self hx
          subst e
          refine ⟨fun r hr => ?_, n1 + n3, b1 + b3, by omega, by omega, SumR.append (SumR.one (h1.mono fun v n b f g => SqR.succ d g)) i4⟩
          rcases List.mem_append.1 hr with hr | hr
          · rw [List.mem_singleton.1 hr]; exact hx
          · exact i1 r hr
    exact key l n b f h2
end Go.Proofs.YtajkdllakleakaaGreatDoor
