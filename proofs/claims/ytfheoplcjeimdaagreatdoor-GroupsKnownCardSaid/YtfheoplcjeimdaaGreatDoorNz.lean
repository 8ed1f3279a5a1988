/- Small laws on memory that a call makes, for any text of this seat. -/
import Derived.Test.YtfheoplcjeimdaaGreatDoorProg
import Derived.WalkKit
import Derived.WalkLawsBesides
import Derived.WalkSpells
import Derived.Handy
import Derived.Lib.Hide
import Derived.Deep.AppendLies
import Derived.Deep.Onto
import Derived.Laws.MakeOwn
import Derived.Deep.OwnRows
import Derived.Deep.RegionLaw
import Derived.Deep.RegionLawGrows
import Derived.Deep.QuietTactic
import Derived.BigQuiet
import Derived.Laws.IdiomStrings
import Derived.IntWalk
namespace Go.Proofs.YtfheoplcjeimdaaGreatDoor
open Go.RowKit
set_option linter.unusedVariables false
set_option linter.unusedSimpArgs false

theorem rB {a b : Bool} (h : a = b) : Ending.returned (.bool a) = .returned (.bool b) := by rw [h]
theorem rI {k : IntKind} {a b : Int} (h : a = b) : Ending.returned (.int k a) = .returned (.int k b) := by rw [h]
theorem vI {k : IntKind} {a b : Int} (h : a = b) : Value.int k a = .int k b := by rw [h]
theorem bel_dn {B : Nat} {a w : World} (h : Below B a w) (n : Nat) : Below B a (w.drewN n) := ⟨h.os, h.tape, h.output, h.size, h.block⟩
theorem belCell {W w1 : World} (hb : Below W.heap.size W w1) : (∀ b o, b < W.heap.size → w1.cell? ⟨b, o, none⟩ = W.cell? ⟨b, o, none⟩) ∧ (∀ b o, b < W.heap.size → w1.frozen? ⟨b, o, none⟩ = W.frozen? ⟨b, o, none⟩) :=
  ⟨fun b o h => hb.cell (p := ⟨b, o, none⟩) h, fun b o h => hb.frozen (p := ⟨b, o, none⟩) h⟩
theorem grB {w w1 : World} (h : Below w.heap.size w w1) (row : Option Nat) : w.grownBy w1 row := ⟨h.os, h.tape, h.output, h.size, fun i hi _ => h.block i hi⟩
theorem ownB {w w1 : World} {base : Nat} {e : TypeId} {size n : Nat} {v : Value} {xs : List Value} (h : w.ownsRow base e size v n xs) (hb : Below w.heap.size w w1) : w1.ownsRow base e size v n xs :=
  h.kept (grB hb none) (by cases v.ownBlock <;> simp)
theorem belG {B : Nat} {w w1 w2 : World} {v : Value} {base : Nat} {e : TypeId} {size n : Nat} {xs : List Value} (h : Below B w w1) (hB : B ≤ w1.heap.size) (hg : w1.grownBy w2 v.ownBlock) (ho : w1.ownsRow base e size v n xs) (hbb : B ≤ base) : Below B w w2 :=
  h.grown hg hB fun k hk => Nat.le_trans hbb (ho.lt k hk).1
theorem below_to {w W : World} {o : Obj} (h : Below (w.alloc o).heap.size (w.alloc o) W) : Below w.heap.size w W :=
  ((Below.refl _ _).alloc (Nat.le_refl _) o).trans (h.mono (by simp))

/-- append of one element, which stands in a new block, to a row of the call's own. -/
theorem app1 {P : Program} {ops : Array Oper} {rest : List Oper} {o : Oper} {a : Act} {Q : Exit → Act → World → Prop} {W : World} (base : Nat) (hgd : o.guard = none) (s x : Operand) (t e : TypeId) (z : Value) (bytes : Nat)
    (ho : o.op = .call { callee := .builtin .append, args := #[s, x], argTypes := #[t, t] })
    (ht : P.underlying t = some (.slice e)) (hinfo : (P.info? e).map (fun i => (i.zero, i.size, i.bytes)) = some (some z, 1, bytes)) (hz : z.cells.size = 1)
    (v : Value) (n : Nat) (xs : List Value) (hs : a.eval s = v) (B : Nat) (hB : W.heap.size = B) (y : Value) (hx : a.eval x = .slice (some ⟨B, 0, none⟩) 1 1) (h1 : y.oneCell' = true)
    (HO : W.ownsRow base e 1 v n xs) (hbase : base ≤ W.heap.size) (hl : (n + 1) * bytes ≤ 140737488355328) (hm : n + 1 ≤ maxLen)
    (h : ∀ g cap w1, w1.ownsRow base e 1 (.slice (some ⟨g, 0, none⟩) (n + 1) cap) (n + 1) (xs ++ [y]) → (W.alloc (.cells #[y] e)).grownBy w1 v.ownBlock → (v.ownBlock = some g ∨ g = B + 1) → g < w1.heap.size →
      wpList P ops Q rest (a.put o.dst (.slice (some ⟨g, 0, none⟩) (n + 1) cap)) w1) :
    wpList P ops Q (o :: rest) a (W.alloc (.cells #[y] e)) := by
  obtain ⟨i0, hi, hz0, hz1, hz2⟩ := info_parts hinfo
  subst hB
  exact wpList_append_lies (W.alloc (.cells #[y] e)) hgd s x t ho base e i0 z 1 bytes ht hi hz0 hz1 hz2 hz (by decide) v n xs hs (HO.alloc _) ⟨W.heap.size, 0, none⟩ 1 1 [y] hx rfl
    (World.news_of_block (cs := #[y]) (t := e) (fr := (0, 0)) (heap_alloc_new W _)) (by simpa using h1) (by decide) hm hl (by simp; omega) (W.heap.size + 1) (by simp) h
/-- What one append leaves: the row, grown, and all else as it was. -/
theorem app1_end {w W w1 : World} {base : Nat} {e : TypeId} {v y : Value} {n : Nat} {xs : List Value} (hb : Below base w W) (hB : base ≤ W.heap.size) (HO : W.ownsRow base e 1 v n xs) (hg : (W.alloc (.cells #[y] e)).grownBy w1 v.ownBlock) : Below base w w1 :=
  belG (hb.alloc hB _) (by simp; omega) hg (HO.alloc _) (Nat.le_refl _)
theorem st_same {w : World} {a : Addr} {u v : Value} (h : w.cell? a = some u) : (w.setCell a v).cell? a = some v := by
  first | exact World.cell?_setCell_same w a v h | exact World.cell?_setCell_same (h := h) ..
theorem st_other {w : World} {a b : Addr} {v : Value} (h : a ≠ b) : (w.setCell a v).cell? b = w.cell? b := by
  first | exact World.cell?_setCell_other w a b v h | exact World.cell?_setCell_other (h := h) ..
def lenOf (v : Value) : Nat := match v with | .slice _ m _ => m | _ => 0
theorem hp_new {w : World} {o : Obj} {B : Nat} (h : w.heap.size = B) : (w.alloc o).heap[B]? = some o := by subst h; exact heap_alloc_new w o
theorem hp_past {w : World} {o x : Obj} {B : Nat} (h : w.heap[B]? = some x) : (w.alloc o).heap[B]? = some x := by
  have hlt := (Array.getElem?_eq_some_iff.1 h).1
  show (w.heap.push o)[B]? = some x
  rw [Array.getElem?_push, if_neg (by omega)]; exact h
theorem heap_dr1 {W : World} {k : Nat} {o : Obj} (h : W.heap[k]? = some o) : W.drew.heap[k]? = some o := h
/-- A row that one operation of a region appends to, whatever the region's order. -/
structure OneR (w0 W : World) (base : Nat) (e : TypeId) (v : Value) (n : Nat) (xs : List Value) : Prop where
  row : W.ownsRow base e 1 v n xs
  b : Below base w0 W
  z : base ≤ W.heap.size
theorem OneR.alloc {w0 W : World} {base n : Nat} {e : TypeId} {v : Value} {xs : List Value} {o : Obj} (h : OneR w0 W base e v n xs) : OneR w0 (W.alloc o) base e v n xs :=
  ⟨h.row.alloc o, h.b.alloc h.z o, Nat.le_trans h.z (by simp)⟩
theorem OneR.drew {w0 W : World} {base n : Nat} {e : TypeId} {v : Value} {xs : List Value} (h : OneR w0 W base e v n xs) : OneR w0 W.drew base e v n xs :=
  ⟨ownB h.row ((Below.refl _ _).drew), h.b.drew, h.z⟩
theorem OneR.drewN {w0 W : World} {base n m : Nat} {e : TypeId} {v : Value} {xs : List Value} (h : OneR w0 W base e v n xs) : OneR w0 (W.drewN m) base e v n xs :=
  ⟨ownB h.row (bel_dn (Below.refl _ _) m), bel_dn h.b m, h.z⟩
theorem OneR.app {w0 W wa : World} {base n n' : Nat} {e : TypeId} {v v' : Value} {xs xs' : List Value} (ho : wa.ownsRow base e 1 v' n' xs') (hg : W.grownBy wa v.ownBlock) (h : OneR w0 W base e v n xs) : OneR w0 wa base e v' n' xs' :=
  ⟨ho, belG h.b h.z hg h.row (Nat.le_refl _), Nat.le_trans h.z hg.size⟩
/-- The region's operation that writes slot d. -/
theorem at_one (d : Nat) {P : Program} {ops : Array Oper} {op : Op} {ty : TypeId} {pos : String} {after : Array Edge} {g : Option (Nat × Bool)} {a : Act} {w : World} {K : Act → World → Prop} {Q : Exit → Act → World → Prop} {E : Prop}
    {w0 : World} {base n : Nat} {e : TypeId} {v : Value} {xs : List Value} (hT : OneR w0 w base e v n xs)
    (h : OneR w0 w base e v n xs → if Region.wanted ⟨some d, op, ty, pos, after, g⟩ (yielded ops a.tmps) = true then Oper.wp P ⟨some d, op, ty, pos, after, g⟩ a w K Q else E) :
    if Region.wanted ⟨some d, op, ty, pos, after, g⟩ (yielded ops a.tmps) = true then Oper.wp P ⟨some d, op, ty, pos, after, g⟩ a w K Q else E := h hT
end Go.Proofs.YtfheoplcjeimdaaGreatDoor
