/- Worlds that change in some blocks alone; rows of items of the call's own. -/
import Derived.Laws.AppendOwnNone
import Derived.Test.YtajkdllakleakaaGreatDoorM2
namespace Go.Proofs.YtajkdllakleakaaGreatDoor
open Go.RowKit
set_option linter.unusedVariables false
set_option linter.unusedSimpArgs false

theorem grow_set {W : World} {B i : Nat} {v : Value} : W.grownBy (W.setCell ⟨B, i, none⟩ v) (some B) := by
  refine ⟨rfl, rfl, rfl, by simp, fun k hk hne => ?_⟩
  have hk2 : B ≠ k := fun e => hne (by rw [e])
  unfold World.setCell
  simp [Array.getElem?_modify, hk2]
/-- A world that has grown, and changed in some blocks alone. -/
structure GrB (w W : World) (S : Nat → Prop) : Prop where
  os : W.os = w.os
  tape : W.tape = w.tape
  output : W.output = w.output
  size : w.heap.size ≤ W.heap.size
  block : ∀ k, k < w.heap.size → ¬ S k → W.heap[k]? = w.heap[k]?
section
variable {S : Nat → Prop}
theorem GrB.refl (w : World) (S : Nat → Prop) : GrB w w S := ⟨rfl, rfl, rfl, Nat.le_refl _, fun _ _ _ => rfl⟩
theorem GrB.trans {a b c : World} (h : GrB a b S) (k : GrB b c S) : GrB a c S :=
  ⟨k.os.trans h.os, k.tape.trans h.tape, k.output.trans h.output, Nat.le_trans h.size k.size, fun i hi hs => (k.block i (Nat.lt_of_lt_of_le hi h.size) hs).trans (h.block i hi hs)⟩
theorem GrB.below {w0 w W : World} (h : Below w0.heap.size w0 w) (hS : ∀ k, S k → w0.heap.size ≤ k) (hg : GrB w W S) : Below w0.heap.size w0 W :=
  ⟨hg.os.trans h.os, hg.tape.trans h.tape, hg.output.trans h.output, Nat.le_trans h.size hg.size, fun k hk => (hg.block k (Nat.lt_of_lt_of_le hk h.size) (fun hs => by have := hS k hs; omega)).trans (h.block k hk)⟩
theorem GrB.alloc (w : World) (o : Obj) : GrB w (w.alloc o) S := by
  have := (Below.refl w.heap.size w).alloc (Nat.le_refl _) o
  exact ⟨this.os, this.tape, this.output, this.size, fun k hk _ => this.block k hk⟩
theorem GrB.drew (w : World) : GrB w w.drew S := by
  have := (Below.refl w.heap.size w).drew
  exact ⟨this.os, this.tape, this.output, this.size, fun k hk _ => this.block k hk⟩
theorem GrB.set {w : World} {B i : Nat} {v : Value} (h : S B) : GrB w (w.setCell ⟨B, i, none⟩ v) S := by
  have g : w.grownBy (w.setCell ⟨B, i, none⟩ v) (some B) := grow_set
  exact ⟨g.os, g.tape, g.output, g.size, fun k hk hs => g.block k hk (fun e => hs (by injection e with e; rw [e]; exact h))⟩
theorem GrB.of_below {w W : World} (h : Below w.heap.size w W) : GrB w W S := ⟨h.os, h.tape, h.output, h.size, fun k hk _ => h.block k hk⟩
theorem GrB.cell {w W : World} (h : GrB w W S) {b i : Nat} (hb : b < w.heap.size) (hs : ¬ S b) : W.cell? ⟨b, i, none⟩ = w.cell? ⟨b, i, none⟩ := World.cell?_of_block (a := ⟨b, i, none⟩) (h.block b hb hs)
theorem GrB.frozen {w W : World} (h : GrB w W S) {b i : Nat} (hb : b < w.heap.size) (hs : ¬ S b) : W.frozen? ⟨b, i, none⟩ = w.frozen? ⟨b, i, none⟩ := World.frozen?_of_block (a := ⟨b, i, none⟩) (h.block b hb hs)
theorem GrB.mono {S' : Nat → Prop} {w W : World} (h : GrB w W S) (hs : ∀ k, S k → S' k) : GrB w W S' := ⟨h.os, h.tape, h.output, h.size, fun k hk hn => h.block k hk (fun e => hn (hs k e))⟩
end
def iflat (l : List IRow) : List Value := (l.map IRow.cells).flatten
theorem iflat_append (a b : List IRow) : iflat (a ++ b) = iflat a ++ iflat b := by simp [iflat]
/-- Items of the call's own. -/
def OwnI (W : World) (base : Nat) (v : Value) (l : List IRow) : Prop := W.ownsRow base 29 8 v l.length (iflat l)
theorem cells8 (r : IRow) : r.cells.length = 8 := rfl
theorem cells_all8 (l : List IRow) : ∀ r, r ∈ l.map IRow.cells → r.length = 8 := fun r hr => by
  obtain ⟨x, _, rfl⟩ := List.mem_map.1 hr; rfl
theorem OwnI.reads {W : World} {base : Nat} {v : Value} {l : List IRow} (h : OwnI W base v l) (hn : l.length ≤ maxLen) : RdI W l v :=
  rows_of_own h (by simp) (cells_all8 l) hn
theorem OwnI.form {W : World} {base : Nat} {v : Value} {l : List IRow} (h : OwnI W base v l) : ∃ A c, v = .slice A l.length c := by
  rcases h.2 with ⟨rfl, h1⟩ | ⟨g, cap, cur, rfl, _⟩
  · exact ⟨none, 0, by rw [h1]⟩
  · exact ⟨_, _, rfl⟩
theorem OwnI.kept {W W' : World} {base : Nat} {v : Value} {l : List IRow} {S : Nat → Prop} (h : OwnI W base v l) (hg : GrB W W' S) (hs : ∀ k, v.ownBlock = some k → ¬ S k) : OwnI W' base v l := by
  refine ⟨h.1, ?_⟩
  rcases h.2 with h1 | ⟨g, cap, cur, rfl, h2, h3, h4⟩
  · exact .inl h1
  · exact .inr ⟨g, cap, cur, rfl, h2, (hg.block g (Array.getElem?_eq_some_iff.1 h3).1 (hs g rfl)).trans h3, h4⟩
theorem OwnI.nil (W : World) (base : Nat) : OwnI W base (.slice none 0 0) [] := World.ownsRow_nil _ _ _ _
theorem GrB.of_grown {w W : World} {row : Option Nat} {S : Nat → Prop} (h : w.grownBy W row) (hs : ∀ k, row = some k → S k) : GrB w W S :=
  ⟨h.os, h.tape, h.output, h.size, fun k hk hn => h.block k hk (fun e => hn (hs k e.symm))⟩
theorem info_item : (Tryz.prog.info? 29).map (fun i => (i.zero, i.size, i.bytes)) = some (some (.agg #[.int .i64 0, .int .i64 0, .string { data := #[] }, .int .i64 0, .int .i64 0, .slice none 0 0, .slice none 0 0, .pointer none]), 8, 104) := by kernel_rfl
/-- append of one item, which stands in a new block, to a row of the call's own. -/
theorem appI {ops : Array Oper} {rest : List Oper} {o : Oper} {a : Act} {Q : Exit → Act → World → Prop} {W : World} (base : Nat) (hgd : o.guard = none) (s x : Operand)
    (ho : o.op = .call { callee := .builtin .append, args := #[s, x], argTypes := #[22, 22] })
    (v : Value) (l : List IRow) (hs : a.eval s = v) (r : IRow) (hok : ROk r) (B : Nat) (hB : W.heap.size = B) (hx : a.eval x = .slice (some ⟨B, 0, none⟩) 1 1)
    (HO : OwnI W base v l) (hbase : base ≤ W.heap.size) (hl : l.length + 1 ≤ 1000000)
    (h : ∀ g cap w1, OwnI w1 base (.slice (some ⟨g, 0, none⟩) (l.length + 1) cap) (l ++ [r]) → W.grownBy w1 v.ownBlock → (∀ k, g = k → v.ownBlock = some k ∨ W.heap.size ≤ k) → W.heap.size < w1.heap.size →
      wpList Tryz.prog ops Q rest (a.put o.dst (.slice (some ⟨g, 0, none⟩) (l.length + 1) cap)) w1) :
    wpList Tryz.prog ops Q (o :: rest) a (W.alloc (.cells #[.int .i64 r.k, .int .i64 r.ak, .string r.tx, .int .i64 r.tr, .int .i64 r.nd, r.ps, r.ms, r.fn] 29)) := by
  obtain ⟨i0, hi, hz0, hz1, hz2⟩ := info_parts info_item
  subst hB
  refine wpList_append_lies _ hgd s x 22 ho base 29 i0 _ 8 104 Tryz.underlying22 hi hz0 hz1 hz2 rfl (by decide) v l.length (iflat l) hs (World.ownsRow.alloc HO _) ⟨W.heap.size, 0, none⟩ 1 1 r.cells hx rfl
    (World.news_of_block (cs := #[.int .i64 r.k, .int .i64 r.ak, .string r.tx, .int .i64 r.tr, .int .i64 r.nd, r.ps, r.ms, r.fn]) (t := 29) (fr := (0, 0)) (heap_alloc_new W _)) ?_ (by decide) (by simp only [maxLen]; omega) (by omega) (by simp; omega) (W.heap.size + 1) (by simp) ?_
  · intro u hu
    simp only [IRow.cells, List.mem_cons, List.not_mem_nil, or_false] at hu
    rcases hu with rfl | rfl | rfl | rfl | rfl | rfl | rfl | rfl
    · rfl
    · rfl
    · rfl
    · rfl
    · rfl
    · exact hok.ps
    · exact hok.ms
    · exact hok.fn
  · intro g cap w1 ho hg hw hlt
    have e : iflat (l ++ [r]) = iflat l ++ r.cells := by rw [iflat_append]; simp [iflat]
    refine h g cap w1 ?_ ((World.grownBy_alloc W _ _).trans hg) (fun k hk => ?_) (by have := hg.size; simp at this; omega)
    · unfold OwnI
      rw [e]; simpa using ho
    · subst hk
      rcases hw with hw | hw
      · exact .inl hw
      · right; omega
def itV (r : IRow) : Value := .agg #[.int .i64 r.k, .int .i64 r.ak, .string r.tx, .int .i64 r.tr, .int .i64 r.nd, r.ps, r.ms, r.fn]
/-- An item with nothing in it; an array. -/
def z0 : IRow := ⟨0, 0, { data := #[] }, 0, 0, .slice none 0 0, .slice none 0 0, .pointer none⟩
theorem ROk.z0 : ROk z0 := ⟨rfl, rfl, rfl⟩
def FitP (x : Bool) (w : World) (e : Ending) (w' : World) : Prop := e = .returned (.bool x) ∧ Below w.heap.size w w'
theorem blk8c {W : World} {X : Nat} {t : TypeId} {a0 a1 a2 a3 a4 a5 a6 a7 : Value} (h : W.heap[X]? = some (.cells #[a0, a1, a2, a3, a4, a5, a6, a7] t (0, 0))) :
    W.cell? ⟨X, 0, none⟩ = some a0 ∧ W.cell? ⟨X, 1, none⟩ = some a1 ∧ W.cell? ⟨X, 2, none⟩ = some a2 ∧ W.cell? ⟨X, 3, none⟩ = some a3 ∧ W.cell? ⟨X, 4, none⟩ = some a4 ∧ W.cell? ⟨X, 5, none⟩ = some a5 ∧ W.cell? ⟨X, 6, none⟩ = some a6 ∧ W.cell? ⟨X, 7, none⟩ = some a7 := by
  refine ⟨?_, ?_, ?_, ?_, ?_, ?_, ?_, ?_⟩ <;> (rw [cell_of_row W X _ _ t _ h]; rfl)
theorem blk8f {W : World} {X : Nat} {t : TypeId} {cs : Array Value} (h : W.heap[X]? = some (.cells cs t (0, 0))) :
    W.frozen? ⟨X, 0, none⟩ = false ∧ W.frozen? ⟨X, 1, none⟩ = false ∧ W.frozen? ⟨X, 2, none⟩ = false ∧ W.frozen? ⟨X, 3, none⟩ = false ∧ W.frozen? ⟨X, 4, none⟩ = false ∧ W.frozen? ⟨X, 5, none⟩ = false ∧ W.frozen? ⟨X, 6, none⟩ = false ∧ W.frozen? ⟨X, 7, none⟩ = false := by
  refine ⟨?_, ?_, ?_, ?_, ?_, ?_, ?_, ?_⟩ <;> simp [World.frozen?, h]
theorem icells_at {W : World} {X : Nat} {t : TypeId} {k ak tr nd : Int} {tx : ByteArray} {ps ms fn : Value} (h : W.heap[X]? = some (.cells #[.int .i64 k, .int .i64 ak, .string tx, .int .i64 tr, .int .i64 nd, ps, ms, fn] t (0, 0))) : ICells W X 0 ⟨k, ak, tx, tr, nd, ps, ms, fn⟩ := blk8c h
theorem iflat_len (l : List IRow) : (iflat l).length = l.length * 8 := by
  have := flat_len (l.map IRow.cells) (cells_all8 l)
  simpa [iflat] using this
theorem iflat_one (l : List IRow) (h1 : ∀ r, r ∈ l → ROk r) : ∀ u, u ∈ iflat l → u.oneCell' = true := fun u hu => by
  obtain ⟨c, hc, hu⟩ := List.mem_flatten.1 hu
  obtain ⟨r, hr, rfl⟩ := List.mem_map.1 hc
  have hok := h1 r hr
  simp only [IRow.cells, List.mem_cons, List.not_mem_nil, or_false] at hu
  rcases hu with rfl | rfl | rfl | rfl | rfl | rfl | rfl | rfl
  · rfl
  · rfl
  · rfl
  · rfl
  · rfl
  · exact hok.ps
  · exact hok.ms
  · exact hok.fn
theorem RdI.cells {w : World} {l : List IRow} {b off n c : Nat} (h : RdI w l (.slice (some ⟨b, off, none⟩) n c)) : ∀ j u, (iflat l)[j]? = some u → w.cell? ⟨b, off + j, none⟩ = some u :=
  RdRows.cells h (cells_all8 l) (by decide)
/-- append of items that are read to a row of the call's own. -/
theorem appIs {ops : Array Oper} {rest : List Oper} {o : Oper} {a : Act} {Q : Exit → Act → World → Prop} {W : World} (base : Nat) (hgd : o.guard = none) (s x : Operand)
    (ho : o.op = .call { callee := .builtin .append, args := #[s, x], argTypes := #[22, 22] })
    (v : Value) (l ms : List IRow) (hs : a.eval s = v) (u : Value) (hx : a.eval x = u) (hu : RdI W ms u) (h1 : ∀ r, r ∈ ms → ROk r)
    (HO : OwnI W base v l) (hbase : base ≤ W.heap.size) (hl : l.length + ms.length ≤ 1000000)
    (h : ∀ v' w1, OwnI w1 base v' (l ++ ms) → W.grownBy w1 v.ownBlock → wpList Tryz.prog ops Q rest (a.put o.dst v') w1) :
    wpList Tryz.prog ops Q (o :: rest) a W := by
  obtain ⟨i0, hi, hz0, hz1, hz2⟩ := info_parts info_item
  obtain ⟨A, c, rfl, hm⟩ := RdI.form hu
  have hcap := RdRows.capd hu
  rcases A with _ | ad
  · have h0 : ms.length = 0 := by
      rcases Nat.eq_zero_or_pos ms.length with e | e
      · exact e
      · obtain ⟨b, off, _, e2, _⟩ := RdI.row hu (Below.refl _ _) e; cases e2
    obtain rfl : ms = [] := List.length_eq_zero_iff.1 h0
    obtain rfl := hcap.1 rfl
    refine wpList_append_own_none hgd s x 22 ho base 29 i0 8 Tryz.underlying22 hi v l.length (iflat l) hs HO hx ?_
    exact h v W (by rw [List.append_nil]; exact HO) (World.grownBy.refl _ _)
  · refine wpList_append_own _ hgd s x 22 ho base 29 i0 _ 8 104 Tryz.underlying22 hi hz0 hz1 hz2 rfl (by decide) v l.length (iflat l) hs HO ad ms.length c (iflat ms) hx (iflat_len ms) ?_ (iflat_one ms h1) (by simp only [maxLen]; omega) (by omega) hbase ?_
    · intro j y hj
      have hjn : j < (iflat ms).length := (List.getElem?_eq_some_iff.1 hj).1
      obtain ⟨b, off, _, e, hlt, _⟩ := RdI.row hu (Below.refl _ _) (show 0 < ms.length by rw [iflat_len] at hjn; omega)
      cases e
      rw [Addr.add_lit]
      exact RdI.cells hu j y hj
    · intro v' w' ho hg _
      refine h v' w' ?_ hg
      unfold OwnI
      rw [List.length_append, iflat_append]
      exact ho
theorem ownI_lit (w : World) : OwnI (w.alloc (.cells #[] 29)) w.heap.size (.slice (some ⟨w.heap.size, 0, none⟩) 0 0) [] :=
  World.ownsRow_lit (base := w.heap.size) (e := 29) (size := 8) w #[] 0 (Nat.le_refl _) (by simp [maxLen]) rfl
set_option maxRecDepth 100000 in
theorem cloneI_any (l : List IRow) (v : Value) (w : World) (h : RdI w l v) (hn : l.length ≤ 900000) (h1 : ∀ r, r ∈ l → ROk r) :
    Calls Tryz.prog 36 #[v] w fun e w' => ∃ v', e = .returned v' ∧ OwnI w' w.heap.size v' l ∧ Below w.heap.size w w' := by
  obtain ⟨A, c, rfl, hc⟩ := h.form
  have HR := Lib.hid h
  have H1 := Lib.hid h1
  clear h h1
  have q88 : ∀ (w : World) (a : Option Addr) (n c n' c' : Nat), (binOp .eql 22 (.slice a n c) (.slice none n' c')).run Tryz.prog w = .ok (.bool a.isNone) w := fun w a n c n' c' => Lib.run_eql_slice_nil w _ _ a n c n' c' Tryz.underlying22
  rcases A with _ | ad
  · have h0 : l.length = 0 := by
      rcases Nat.eq_zero_or_pos l.length with e | e
      · exact e
      · obtain ⟨b, off, _, e2, _⟩ := RdI.row HR.out (Below.refl _ _) e; cases e2
    obtain rfl : l = [] := List.length_eq_zero_iff.1 h0
    go_enter Tryz.func36, Tryz.ntmps36
    go_wp2
    go_ret
    exact ⟨_, rfl, World.ownsRow_nil _ _ _ _, Below.refl _ _⟩
  · have HN := Lib.hid hn
    have HB0 := Lib.hid (box1 w 29 #[])
    go_enter Tryz.func36, Tryz.ntmps36
    go_wp2_with (at_builtin; refine appIs w.heap.size rfl (.tmp 5) (.tmp 6) rfl _ [] l rfl _ rfl (RdRows.below HR.out HB0.out) H1.out (ownI_lit w) (by simp) (by have := HN.out; simp; omega) ?_)
    intro v' w' ho hg
    have HB := Lib.hid (belG (B := w.heap.size) (w := w) HB0.out (by simp) hg (ownI_lit w) (Nat.le_refl _))
    have HO : Hid (OwnI w' w.heap.size v' l) := Lib.hid (by simpa using ho)
    clear ho hg
    go_wp2
    go_ret
    exact ⟨_, rfl, HO.out, HB.out⟩
end Go.Proofs.YtajkdllakleakaaGreatDoor
/- Chapter 16, examples: nodes, atoms, the tree. -/
namespace Go.Proofs.YtajkdllakleakaaGreatDoor
open Go.RowKit
set_option linter.unusedVariables false
set_option linter.unusedSimpArgs false

abbrev eS : ByteArray := { data := #[] }
abbrev aS : ByteArray := { data := #[97] }
abbrev xS : ByteArray := { data := #[120] }
abbrev oS : ByteArray := { data := #[49] }
abbrev wS : ByteArray := { data := #[50] }
def nodeR (n : Int) : IRow := ⟨1, 0, eS, 0, n, .slice none 0 0, .slice none 0 0, .pointer none⟩
def atomR (k : Int) (s : ByteArray) : IRow := ⟨0, k, s, 0, 0, .slice none 0 0, .slice none 0 0, .pointer none⟩
theorem ROk.nodeR (n : Int) : ROk (nodeR n) := ⟨rfl, rfl, rfl⟩
theorem ROk.atomR (k : Int) (s : ByteArray) : ROk (atomR k s) := ⟨rfl, rfl, rfl⟩
def nodeV (k : Int) (nm tx : ByteArray) (up : Int) : Value := .agg #[.int .i64 k, .string nm, .string tx, .int .i64 up]
/-- The nodes of the example's tree. -/
def ndC : Array Value := #[.int .i64 0, .string eS, .string eS, .int .i64 (-1), .int .i64 1, .string aS, .string eS, .int .i64 0, .int .i64 2, .string xS, .string oS, .int .i64 1, .int .i64 3, .string eS, .string wS, .int .i64 1]
/-- The trees of the examples, as they lie. -/
structure Tr (W : World) (X Y : Nat) : Prop where
  x : W.heap[X]? = some (.cells #[.slice (some ⟨Y, 0, none⟩) 4 4] 73 (0, 0))
  y : W.heap[Y]? = some (.cells ndC 70 (0, 0))
def trV (X : Nat) : Value := .slice (some ⟨X, 0, none⟩) 1 1
def tr1 (Y : Nat) : Value := .agg #[.slice (some ⟨Y, 0, none⟩) 4 4]
theorem Tr.lt {W : World} {X Y : Nat} (h : Tr W X Y) : X < W.heap.size ∧ Y < W.heap.size := ⟨(Array.getElem?_eq_some_iff.1 h.x).1, (Array.getElem?_eq_some_iff.1 h.y).1⟩
theorem Tr.below {W W' : World} {X Y : Nat} (h : Tr W X Y) (hb : Below W.heap.size W W') : Tr W' X Y := ⟨(hb.block X h.lt.1).trans h.x, (hb.block Y h.lt.2).trans h.y⟩
theorem Tr.kept {W W' : World} {X Y : Nat} {S : Nat → Prop} (h : Tr W X Y) (hg : GrB W W' S) (hx : ¬ S X) (hy : ¬ S Y) : Tr W' X Y := ⟨(hg.block X h.lt.1 hx).trans h.x, (hg.block Y h.lt.2 hy).trans h.y⟩
set_option maxRecDepth 100000 in
theorem at_any (n : Int) (w : World) : Calls Tryz.prog 17 #[.int .i64 n] w fun e w' => e = .returned (itV (nodeR n)) ∧ Below w.heap.size w w' := by
  go_enter Tryz.func17, Tryz.ntmps17
  go_wp2
  refine bodyPost_ret (v := itV (nodeR n)) ?_ rfl ⟨rfl, ?_⟩
  · simp [results, Tryz.results17, go_sem, itV, nodeR]
  · exact box1 _ _ _
set_option maxRecDepth 100000 in
theorem value_any (k : Int) (s : ByteArray) (w : World) : Calls Tryz.prog 5 #[.int .i64 k, .string s] w fun e w' => e = .returned (itV (atomR k s)) ∧ Below w.heap.size w w' := by
  go_enter Tryz.func5, Tryz.ntmps5
  go_wp2
  refine bodyPost_ret (v := itV (atomR k s)) ?_ rfl ⟨rfl, ?_⟩
  · simp [results, Tryz.results5, go_sem, itV, atomR]
  · exact box1 _ _ _
set_option maxRecDepth 100000 in
theorem node_any (k : Int) (nm tx : ByteArray) (up : Int) (w : World) : Calls Tryz.prog 40 #[.int .i64 k, .string nm, .string tx, .int .i64 up] w fun e w' => e = .returned (nodeV k nm tx up) ∧ Below w.heap.size w w' := by
  go_enter Tryz.func40, Tryz.ntmps40
  go_wp2
  refine bodyPost_ret (v := nodeV k nm tx up) ?_ rfl ⟨rfl, ?_⟩
  · simp [results, Tryz.results40, go_sem, nodeV]
  · exact box1 _ _ _
/-- The trees of the examples. -/
def TreesP (w : World) (e : Ending) (w' : World) : Prop := ∃ X Y, e = .returned (trV X) ∧ Tr w' X Y ∧ w.heap.size ≤ X ∧ w.heap.size ≤ Y ∧ Below w.heap.size w w'
set_option maxRecDepth 100000 in
theorem trees_any (w : World) : Calls Tryz.prog 16 #[] w (TreesP w) := by
  go_enter Tryz.func16, Tryz.ntmps16
  go_wp2_with fail
  refine (node_any _ _ _ _ _).mono ?_
  rintro e w1 ⟨rfl, hb⟩
  have HB1 := Lib.hid hb
  clear hb
  go_wp2_with fail
  refine (node_any _ _ _ _ _).mono ?_
  rintro e w2 ⟨rfl, hb⟩
  have HB2 := Lib.hid (HB1.out.trans (hb.mono HB1.out.size))
  clear hb
  go_wp2_with fail
  refine (node_any _ _ _ _ _).mono ?_
  rintro e w3 ⟨rfl, hb⟩
  have HB3 := Lib.hid (HB2.out.trans (hb.mono HB2.out.size))
  clear hb
  go_wp2_with fail
  refine (node_any _ _ _ _ _).mono ?_
  rintro e w4 ⟨rfl, hb⟩
  have HB4 := Lib.hid (HB3.out.trans (hb.mono HB3.out.size))
  clear hb HB1 HB2 HB3
  unfold nodeV
  go_wp2
  go_ret
  have hs := HB4.out.size
  refine ⟨w4.heap.size + 1, w4.heap.size, rfl, ⟨?_, ?_⟩, by omega, by omega, ?_⟩
  · exact hp_new (by simp)
  · exact hp_past (hp_new rfl)
  · exact (HB4.out.alloc hs _).alloc (by simp; omega) _
end Go.Proofs.YtajkdllakleakaaGreatDoor
/- package tree: the example's tree: which nodes are above each other, and placed. -/
namespace Go.Proofs.YtajkdllakleakaaGreatDoor
open Go.RowKit
set_option linter.unusedVariables false
set_option linter.unusedSimpArgs false

def AllP (w : World) (e : Ending) (w' : World) : Prop := e = .returned (.bool true) ∧ Below w.heap.size w w'
/-- A cell of the nodes. -/
theorem nd_cell {W : World} {Y i : Nat} (h : W.heap[Y]? = some (.cells ndC 70 (0, 0))) : W.cell? ⟨Y, i, none⟩ = ndC[i]? := cell_of_row W Y i _ _ _ h
set_option maxRecDepth 100000 in
theorem above_ex (a i : Int) (Y : Nat) (w : World) (h : (a = 0 ∧ i = 0) ∨ (a = 1 ∧ (i = 1 ∨ i = 2 ∨ i = 3))) (hy : w.heap[Y]? = some (.cells ndC 70 (0, 0))) : Calls Tryz.prog 60 #[tr1 Y, .int .i64 a, .int .i64 i] w (AllP w) := by
  have hy1 := hp_past (o := .cells #[.slice (some ⟨Y, 0, none⟩) 4 4] 73) hy
  have n1 : (w.alloc (.cells #[.slice (some ⟨Y, 0, none⟩) 4 4] 73)).cell? ⟨Y, 11, none⟩ = some (.int .i64 1) := nd_cell hy1
  have n2 : (w.alloc (.cells #[.slice (some ⟨Y, 0, none⟩) 4 4] 73)).cell? ⟨Y, 15, none⟩ = some (.int .i64 1) := nd_cell hy1
  clear hy1 hy
  unfold tr1
  go_enter Tryz.func60, Tryz.ntmps60
  go_wp2
  go_loopw [2] (fun v wr => ∃ j : Int, v = .int .i64 j ∧ (j = a ∨ (a = 1 ∧ (j = 2 ∨ j = 3))) ∧ wr = (w.alloc (.cells #[.slice (some ⟨Y, 0, none⟩) 4 4] 73))) (fun v _ => (intOf v - a).toNat)
  case atStart => exact ⟨i, rfl, by omega, rfl⟩
  case round =>
    obtain ⟨j, rfl, hj, rfl⟩ := hrel
    by_cases hja : j = a
    · subst hja
      go_wp2
      go_ret
      exact ⟨rB (by simp), box1 _ _ _⟩
    · obtain ⟨rfl, rfl | rfl⟩ : a = 1 ∧ (j = 2 ∨ j = 3) := by omega
      · go_wp2
        go_roundw
        case rel => exact ⟨1, rfl, .inl rfl, trivial⟩
        case measure => simp [intOf]
      · go_wp2
        go_roundw
        case rel => exact ⟨1, rfl, .inl rfl, trivial⟩
        case measure => simp [intOf]
end Go.Proofs.YtajkdllakleakaaGreatDoor
/- slices.ContainsFunc of items with a closure that finds none of them. -/
namespace Go.Proofs.YtajkdllakleakaaGreatDoor
open Go.RowKit
set_option linter.unusedVariables false
set_option linter.unusedSimpArgs false

set_option maxRecDepth 100000 in
theorem idxNone_any (l : List IRow) (v : Value) (w : World) (g : Nat) (hent : ∀ args W, (callFunc g args).run Tryz.prog W = .ok (.enter g args) W) (c1 : Value) (J : Nat → World → Prop) (hl : l.length ≤ 1000000) (hok : ∀ r, r ∈ l → ROk r)
    (hrd : ∀ k W, J k W → RdI W l v) (hal : ∀ k W o, J k W → J k (W.alloc o)) (h0 : J 0 w)
    (hstep : ∀ k r W, l[k]? = some r → J k W → Calls Tryz.prog g #[itV r, c1] W fun e W' => e = .returned (.bool false) ∧ J (k + 1) W') :
    Calls Tryz.prog 43 #[v, .func (.func g) #[] #[c1]] w fun e w' => e = .returned (.int .i64 (-1)) ∧ J l.length w' := by
  obtain ⟨A, c, rfl, hm⟩ := (hrd 0 w h0).form
  have HRD := Lib.hid hrd
  have HOK := Lib.hid hok
  have HAL := Lib.hid hal
  have HST := Lib.hid hstep
  have H0 := Lib.hid h0
  clear hrd hok hal hstep h0 hm
  generalize hl' : l.length = m at *
  have HM := Lib.hid hl'
  clear hl'
  go_enter Tryz.func43, Tryz.ntmps43
  go_wp2
  go_loopw [8] (fun i wr => ∃ k : Nat, k ≤ m ∧ i = .int .i64 k ∧ Hid (J k wr)) (fun i _ => m - (intOf i).toNat)
  case atStart => exact ⟨0, Nat.zero_le _, rfl, H0⟩
  case round =>
    obtain ⟨k, hk, rfl, HJ⟩ := hrel
    by_cases hlt : k < m
    · obtain ⟨bI, off, r, rfl, hbI, hget, hdrop, g0, g1, g2, g3, g4, g5, g6, g7⟩ := (HRD.out k wr HJ.out).row (Below.refl _ _) hlt
      have hok := HOK.out r (List.mem_of_getElem? hget)
      have sps := fun w a m => run_store Tryz.prog w a _ m hok.ps
      have sms := fun w a m => run_store Tryz.prog w a _ m hok.ms
      have sfn := fun w a m => run_store Tryz.prog w a _ m hok.fn
      have hps := hok.ps
      have hms := hok.ms
      have hfn := hok.fn
      have HQR := Lib.hid (fun W hW => HST.out k r W hget hW)
      clear hok hget hdrop hbI
      go_wp2_with fail
      refine (HQR.out _ HJ.out).mono ?_
      rintro e w1 ⟨rfl, hj⟩
      have HJ1 := Lib.hid hj
      clear hj
      go_wp2
      go_roundw
      case rel => exact ⟨k + 1, by omega, by go_num, HJ1⟩
      case measure => simp [intOf]; omega
    · obtain rfl : k = m := by omega
      go_wp2
      go_ret
      exact ⟨rfl, HJ.out⟩
set_option maxRecDepth 100000 in
theorem hasNone_any (l : List IRow) (v : Value) (w : World) (g : Nat) (hent : ∀ args W, (callFunc g args).run Tryz.prog W = .ok (.enter g args) W) (c1 : Value) (J : Nat → World → Prop) (hl : l.length ≤ 1000000) (hok : ∀ r, r ∈ l → ROk r)
    (hrd : ∀ k W, J k W → RdI W l v) (hal : ∀ k W o, J k W → J k (W.alloc o)) (h0 : J 0 w)
    (hstep : ∀ k r W, l[k]? = some r → J k W → Calls Tryz.prog g #[itV r, c1] W fun e W' => e = .returned (.bool false) ∧ J (k + 1) W') :
    Calls Tryz.prog 24 #[v, .func (.func g) #[] #[c1]] w fun e w' => e = .returned (.bool false) ∧ J l.length w' := by
  have HC := Lib.hid (idxNone_any l v w g hent c1 J hl hok hrd hal h0 hstep)
  clear hl hok hrd hal h0 hstep
  go_enter Tryz.func24, Tryz.ntmps24
  go_wp2_with fail
  refine HC.out.mono ?_
  rintro e w1 ⟨rfl, hj⟩
  have HJ := Lib.hid hj
  clear hj
  go_wp2
  go_ret
  exact ⟨rfl, HJ.out⟩
end Go.Proofs.YtajkdllakleakaaGreatDoor
/- slices.ContainsFunc of items with a closure of two captured variables that finds none of them. -/
namespace Go.Proofs.YtajkdllakleakaaGreatDoor
open Go.RowKit
set_option linter.unusedVariables false
set_option linter.unusedSimpArgs false

set_option maxRecDepth 100000 in
theorem idxNone2_any (l : List IRow) (v : Value) (w : World) (g : Nat) (hent : ∀ args W, (callFunc g args).run Tryz.prog W = .ok (.enter g args) W) (c1 c2 : Value) (J : Nat → World → Prop) (hl : l.length ≤ 1000000) (hok : ∀ r, r ∈ l → ROk r)
    (hrd : ∀ k W, J k W → RdI W l v) (hal : ∀ k W o, J k W → J k (W.alloc o)) (h0 : J 0 w)
    (hstep : ∀ k r W, l[k]? = some r → J k W → Calls Tryz.prog g #[itV r, c1, c2] W fun e W' => e = .returned (.bool false) ∧ J (k + 1) W') :
    Calls Tryz.prog 43 #[v, .func (.func g) #[] #[c1, c2]] w fun e w' => e = .returned (.int .i64 (-1)) ∧ J l.length w' := by
  obtain ⟨A, c, rfl, hm⟩ := (hrd 0 w h0).form
  have HRD := Lib.hid hrd
  have HOK := Lib.hid hok
  have HAL := Lib.hid hal
  have HST := Lib.hid hstep
  have H0 := Lib.hid h0
  clear hrd hok hal hstep h0 hm
  generalize hl' : l.length = m at *
  have HM := Lib.hid hl'
  clear hl'
  go_enter Tryz.func43, Tryz.ntmps43
  go_wp2
  go_loopw [8] (fun i wr => ∃ k : Nat, k ≤ m ∧ i = .int .i64 k ∧ Hid (J k wr)) (fun i _ => m - (intOf i).toNat)
  case atStart => exact ⟨0, Nat.zero_le _, rfl, H0⟩
  case round =>
    obtain ⟨k, hk, rfl, HJ⟩ := hrel
    by_cases hlt : k < m
    · obtain ⟨bI, off, r, rfl, hbI, hget, hdrop, g0, g1, g2, g3, g4, g5, g6, g7⟩ := (HRD.out k wr HJ.out).row (Below.refl _ _) hlt
      have hok := HOK.out r (List.mem_of_getElem? hget)
      have sps := fun w a m => run_store Tryz.prog w a _ m hok.ps
      have sms := fun w a m => run_store Tryz.prog w a _ m hok.ms
      have sfn := fun w a m => run_store Tryz.prog w a _ m hok.fn
      have hps := hok.ps
      have hms := hok.ms
      have hfn := hok.fn
      have HQR := Lib.hid (fun W hW => HST.out k r W hget hW)
      clear hok hget hdrop hbI
      go_wp2_with fail
      refine (HQR.out _ HJ.out).mono ?_
      rintro e w1 ⟨rfl, hj⟩
      have HJ1 := Lib.hid hj
      clear hj
      go_wp2
      go_roundw
      case rel => exact ⟨k + 1, by omega, by go_num, HJ1⟩
      case measure => simp [intOf]; omega
    · obtain rfl : k = m := by omega
      go_wp2
      go_ret
      exact ⟨rfl, HJ.out⟩
set_option maxRecDepth 100000 in
theorem hasNone2_any (l : List IRow) (v : Value) (w : World) (g : Nat) (hent : ∀ args W, (callFunc g args).run Tryz.prog W = .ok (.enter g args) W) (c1 c2 : Value) (J : Nat → World → Prop) (hl : l.length ≤ 1000000) (hok : ∀ r, r ∈ l → ROk r)
    (hrd : ∀ k W, J k W → RdI W l v) (hal : ∀ k W o, J k W → J k (W.alloc o)) (h0 : J 0 w)
    (hstep : ∀ k r W, l[k]? = some r → J k W → Calls Tryz.prog g #[itV r, c1, c2] W fun e W' => e = .returned (.bool false) ∧ J (k + 1) W') :
    Calls Tryz.prog 24 #[v, .func (.func g) #[] #[c1, c2]] w fun e w' => e = .returned (.bool false) ∧ J l.length w' := by
  have HC := Lib.hid (idxNone2_any l v w g hent c1 c2 J hl hok hrd hal h0 hstep)
  clear hl hok hrd hal h0 hstep
  go_enter Tryz.func24, Tryz.ntmps24
  go_wp2_with fail
  refine HC.out.mono ?_
  rintro e w1 ⟨rfl, hj⟩
  have HJ := Lib.hid hj
  clear hj
  go_wp2
  go_ret
  exact ⟨rfl, HJ.out⟩
end Go.Proofs.YtajkdllakleakaaGreatDoor
