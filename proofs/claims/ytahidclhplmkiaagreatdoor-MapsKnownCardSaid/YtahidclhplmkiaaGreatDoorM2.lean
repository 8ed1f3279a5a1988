/- Items in memory, one by one; what a counter of sizes holds. -/
import Derived.StillTailTactics
import Derived.LaidEqlPtr
import Derived.LoopN
import Derived.Laws.EntriesVeiled
import Derived.Test.YtahidclhplmkiaaGreatDoorM1
namespace Go.Proofs.YtahidclhplmkiaaGreatDoor
open Go.RowKit
set_option linter.unusedVariables false
set_option linter.unusedSimpArgs false

theorem box1 (w : World) (t : TypeId) (cs : Array Value) : Below w.heap.size w (w.alloc (.cells cs t)) := (Below.refl _ _).alloc (Nat.le_refl _) _
/-- A region whose first n operations leave the world as it is, in any order. -/
theorem still_tail_d {P : Program} {id : Nat} {Q : Exit → Act → World → Prop} {a : Act} {w : World} {l : List Oper} (n : Nat) (hm : P.follows .mixedOrders = true) (hB : Region.lexTailB .any l.toArray n = true)
    (h : wpStill P l.toArray w.drew (fun a' => wpList P l.toArray Q (l.drop n) a' w.drew) (l.take n) a) : (Code.region id l.toArray true).wp P Q a w := wp_region_still_tail n hm hB h
theorem RdRows.slice {w : World} {wd : Nat} {rows : List (List Value)} {A : Option Addr} {n c : Nat} (h : RdRows w wd rows (.slice A n c)) :
    rows.length = n ∧ n ≤ maxLen ∧ (0 < n → ∃ b off, A = some ⟨b, off, none⟩ ∧ b < w.heap.size ∧ ∀ j, j < n → ∀ i, i < wd → w.cell? ⟨b, off + j * wd + i, none⟩ = some ((rows.getD j []).getD i undef)) := by
  obtain ⟨A', c', e, hm, h⟩ := h
  cases e
  exact ⟨rfl, Nat.le_trans hm.2.1 hm.2.2, h⟩
theorem RdRows.capd {w : World} {wd : Nat} {rows : List (List Value)} {A : Option Addr} {n c : Nat} (h : RdRows w wd rows (.slice A n c)) : Capd A n c := by
  obtain ⟨A', c', e, hm, h⟩ := h
  cases e
  exact hm
theorem RdRows.form {w : World} {wd : Nat} {rows : List (List Value)} {v : Value} (h : RdRows w wd rows v) : ∃ A c, v = .slice A rows.length c ∧ rows.length ≤ maxLen := by
  obtain ⟨A, c, e, hm, _⟩ := h
  exact ⟨A, c, e, Nat.le_trans hm.2.1 hm.2.2⟩
theorem drop_cons {α : Type} {l : List α} {k : Nat} (hk : k < l.length) : l.drop k = l[k] :: l.drop (k + 1) := List.drop_eq_getElem_cons hk
theorem RdI.form {w : World} {l : List IRow} {v : Value} (h : RdI w l v) : ∃ A c, v = .slice A l.length c ∧ l.length ≤ maxLen := by
  have := RdRows.form h
  simpa using this
theorem RdP.form {w : World} {l : List PRow} {v : Value} (h : RdP w l v) : ∃ A c, v = .slice A l.length c ∧ l.length ≤ maxLen := by
  have := RdRows.form h
  simpa using this
theorem RdM.form {w : World} {l : List Value} {v : Value} (h : RdM w l v) : ∃ A c, v = .slice A l.length c ∧ l.length ≤ maxLen := by
  have := RdRows.form h
  simpa using this
theorem RdF.form {w : World} {l : List BRow} {v : Value} (h : RdF w l v) : ∃ A c, v = .slice A l.length c ∧ l.length ≤ maxLen := by
  have := RdRows.form h
  simpa using this
/-- The cells of one item of a sequence. -/
def ICells (W : World) (b o : Nat) (r : IRow) : Prop :=
  W.cell? ⟨b, o, none⟩ = some (.int .i64 r.k) ∧ W.cell? ⟨b, o + 1, none⟩ = some (.int .i64 r.ak) ∧ W.cell? ⟨b, o + 2, none⟩ = some (.string r.tx) ∧ W.cell? ⟨b, o + 3, none⟩ = some (.int .i64 r.tr) ∧
  W.cell? ⟨b, o + 4, none⟩ = some (.int .i64 r.nd) ∧ W.cell? ⟨b, o + 5, none⟩ = some r.ps ∧ W.cell? ⟨b, o + 6, none⟩ = some r.ms ∧ W.cell? ⟨b, o + 7, none⟩ = some r.fn
theorem RdI.row {w W : World} {l : List IRow} {A : Option Addr} {n c : Nat} (h : RdI w l (.slice A n c)) (hb : Below w.heap.size w W) {k : Nat} (hk : k < n) :
    ∃ b off r, A = some ⟨b, off, none⟩ ∧ b < w.heap.size ∧ l[k]? = some r ∧ l.drop k = r :: l.drop (k + 1) ∧ ICells W b (off + k * 8) r := by
  obtain ⟨h1, h2, h3⟩ := RdRows.slice h
  obtain ⟨b, off, rfl, hlt, hc⟩ := h3 (by omega)
  have hl : k < l.length := by simp only [List.length_map] at h1; omega
  have hg : (l.map IRow.cells).getD k [] = (l[k]).cells := by simp [List.getD_eq_getElem?_getD, hl]
  have key : ∀ i, i < 8 → W.cell? ⟨b, off + k * 8 + i, none⟩ = some ((l[k]).cells.getD i undef) := fun i hi => by
    have := (hb.cell (p := ⟨b, off + k * 8 + i, none⟩) hlt).trans (hc k hk i hi)
    rw [hg] at this; exact this
  exact ⟨b, off, l[k], rfl, hlt, List.getElem?_eq_getElem hl, drop_cons hl, key 0 (by decide), key 1 (by decide), key 2 (by decide), key 3 (by decide), key 4 (by decide), key 5 (by decide), key 6 (by decide), key 7 (by decide)⟩
theorem RdP.row {w W : World} {l : List PRow} {A : Option Addr} {n c : Nat} (h : RdP w l (.slice A n c)) (hb : Below w.heap.size w W) {k : Nat} (hk : k < n) :
    ∃ b off r, A = some ⟨b, off, none⟩ ∧ b < w.heap.size ∧ l[k]? = some r ∧ l.drop k = r :: l.drop (k + 1) ∧ W.cell? ⟨b, off + k * 3, none⟩ = some (.int .i64 r.ak) ∧ W.cell? ⟨b, off + k * 3 + 1, none⟩ = some (.string r.tx) ∧ W.cell? ⟨b, off + k * 3 + 2, none⟩ = some r.v := by
  obtain ⟨h1, h2, h3⟩ := RdRows.slice h
  obtain ⟨b, off, rfl, hlt, hc⟩ := h3 (by omega)
  have hl : k < l.length := by simp only [List.length_map] at h1; omega
  have hg : (l.map PRow.cells).getD k [] = (l[k]).cells := by simp [List.getD_eq_getElem?_getD, hl]
  have key : ∀ i, i < 3 → W.cell? ⟨b, off + k * 3 + i, none⟩ = some ((l[k]).cells.getD i undef) := fun i hi => by
    have := (hb.cell (p := ⟨b, off + k * 3 + i, none⟩) hlt).trans (hc k hk i hi)
    rw [hg] at this; exact this
  exact ⟨b, off, l[k], rfl, hlt, List.getElem?_eq_getElem hl, drop_cons hl, key 0 (by decide), key 1 (by decide), key 2 (by decide)⟩
theorem RdF.row {w W : World} {l : List BRow} {A : Option Addr} {n c : Nat} (h : RdF w l (.slice A n c)) (hb : Below w.heap.size w W) {k : Nat} (hk : k < n) :
    ∃ b off r, A = some ⟨b, off, none⟩ ∧ b < w.heap.size ∧ l[k]? = some r ∧ l.drop k = r :: l.drop (k + 1) ∧ W.cell? ⟨b, off + k * 2, none⟩ = some (.string r.nm) ∧ W.cell? ⟨b, off + k * 2 + 1, none⟩ = some r.v := by
  obtain ⟨h1, h2, h3⟩ := RdRows.slice h
  obtain ⟨b, off, rfl, hlt, hc⟩ := h3 (by omega)
  have hl : k < l.length := by simp only [List.length_map] at h1; omega
  have hg : (l.map BRow.cells).getD k [] = (l[k]).cells := by simp [List.getD_eq_getElem?_getD, hl]
  have key : ∀ i, i < 2 → W.cell? ⟨b, off + k * 2 + i, none⟩ = some ((l[k]).cells.getD i undef) := fun i hi => by
    have := (hb.cell (p := ⟨b, off + k * 2 + i, none⟩) hlt).trans (hc k hk i hi)
    rw [hg] at this; exact this
  exact ⟨b, off, l[k], rfl, hlt, List.getElem?_eq_getElem hl, drop_cons hl, key 0 (by decide), key 1 (by decide)⟩
theorem RdM.row {w W : World} {l : List Value} {A : Option Addr} {n c : Nat} (h : RdM w l (.slice A n c)) (hb : Below w.heap.size w W) {k : Nat} (hk : k < n) :
    ∃ b off r, A = some ⟨b, off, none⟩ ∧ b < w.heap.size ∧ l[k]? = some r ∧ l.drop k = r :: l.drop (k + 1) ∧ W.cell? ⟨b, off + k, none⟩ = some r := by
  obtain ⟨h1, h2, h3⟩ := RdRows.slice h
  obtain ⟨b, off, rfl, hlt, hc⟩ := h3 (by omega)
  have hl : k < l.length := by simp only [List.length_map] at h1; omega
  have hg : (l.map fun x => [x]).getD k [] = [l[k]] := by simp [List.getD_eq_getElem?_getD, hl]
  have := (hb.cell (p := ⟨b, off + k * 1 + 0, none⟩) hlt).trans (hc k hk 0 (by decide))
  rw [hg, Nat.mul_one, Nat.add_zero] at this
  exact ⟨b, off, l[k], rfl, hlt, List.getElem?_eq_getElem hl, drop_cons hl, this⟩
theorem SqR.pos {w : World} {d : Nat} {v : Value} {n b : Nat} {f : List IRow} (h : SqR w d v n b f) : ∃ d', d = d' + 1 := by
  cases d with
  | zero => exact h.elim
  | succ d => exact ⟨d, rfl⟩

theorem SqR.one {w : World} {d : Nat} {v : Value} {n b : Nat} {f : List IRow} (h : SqR w d v n b f) : v.oneCell' = true := by
  obtain ⟨d, rfl⟩ := h.pos
  obtain ⟨l, h1, _⟩ := h
  obtain ⟨A, c, rfl, _⟩ := h1.form
  rfl
theorem SumR.len {α : Type} {P : α → Nat → Nat → List IRow → Prop} (hP : ∀ x n b f, P x n b f → 1 ≤ n) {l : List α} {n b : Nat} {f : List IRow} (H : SumR P l n b f) : l.length ≤ n := by
  induction H with
  | nil => exact Nat.le_refl _
  | cons h1 _ ih => have := hP _ _ _ _ h1; simp only [List.length_cons]; omega
/-- Whether there is too much. -/
def ovB (n b : Nat) : Bool := decide (262144 < n) || decide (4194304 < b)
theorem ovB_mono {n b n' b' : Nat} (h : ovB n b = true) (hn : n ≤ n') (hb : b ≤ b') : ovB n' b' = true := by
  simp only [ovB, Bool.or_eq_true, decide_eq_true_eq] at h ⊢; omega
/-- What a counter holds behind N items and B bytes: it stops when there is too much. -/
structure CntI (N B n b : Nat) : Prop where
  hn : n ≤ N
  hb : b ≤ B
  eq : ovB N B = false → n = N ∧ b = B
  ov : ovB N B = true → ovB n b = true
theorem CntI.zero : CntI 0 0 0 0 := ⟨Nat.le_refl _, Nat.le_refl _, fun _ => ⟨rfl, rfl⟩, id⟩
theorem CntI.same (n b : Nat) : CntI n b n b := ⟨Nat.le_refl _, Nat.le_refl _, fun _ => ⟨rfl, rfl⟩, id⟩
theorem CntI.stop {N B n b : Nat} (h : CntI N B n b) (ho : ovB n b = true) {N' B' : Nat} (hN : N ≤ N') (hB : B ≤ B') : CntI N' B' n b :=
  ⟨Nat.le_trans h.hn hN, Nat.le_trans h.hb hB, fun e => (by rw [ovB_mono ho (Nat.le_trans h.hn hN) (Nat.le_trans h.hb hB)] at e; cases e), fun _ => ho⟩
theorem CntI.go {N B n b : Nat} (h : CntI N B n b) (ho : ovB n b = false) : n = N ∧ b = B := by
  refine h.eq ?_
  cases e : ovB N B with
  | false => rfl
  | true => rw [h.ov e] at ho; cases ho
theorem CntI.more {N B n b : Nat} (h : CntI N B n b) (ho : ovB n b = false) (x y : Nat) : CntI (N + x) (B + y) (n + x) (b + y) := by
  obtain ⟨rfl, rfl⟩ := h.go ho
  exact .same _ _
theorem CntI.out {N B n b : Nat} (h : CntI N B n b) : ovB n b = ovB N B := by
  cases e : ovB N B with
  | false => obtain ⟨rfl, rfl⟩ := h.eq e; exact e
  | true => exact h.ov e
theorem CntI.end_ {N B n b : Nat} (h : CntI N B n b) : CntI (N + 0) (B + 0) n b := h
end Go.Proofs.YtahidclhplmkiaaGreatDoor
/- The reference's counter of sizes: add, Size. -/
namespace Go.Proofs.YtahidclhplmkiaaGreatDoor
open Go.RowKit
set_option linter.unusedVariables false
set_option linter.unusedSimpArgs false

/-- A counter, in a block. -/
structure CB (W : World) (B cn cb : Nat) : Prop where
  lt : B < W.heap.size
  c0 : W.cell? ⟨B, 0, none⟩ = some (.int .i64 (cn : Int))
  c1 : W.cell? ⟨B, 1, none⟩ = some (.int .i64 (cb : Int))
  f0 : W.frozen? ⟨B, 0, none⟩ = false
  f1 : W.frozen? ⟨B, 1, none⟩ = false
/-- An item, in a block. -/
structure XC (W : World) (X : Nat) (r : IRow) : Prop where
  lt : X < W.heap.size
  c : ICells W X 0 r
theorem CB.drew {W : World} {B cn cb : Nat} (h : CB W B cn cb) : CB W.drew B cn cb := ⟨h.lt, h.c0, h.c1, h.f0, h.f1⟩
theorem CB.drewN {W : World} {B cn cb m : Nat} (h : CB W B cn cb) : CB (W.drewN m) B cn cb := ⟨h.lt, h.c0, h.c1, h.f0, h.f1⟩
theorem CB.alloc {W : World} {B cn cb : Nat} (h : CB W B cn cb) (o : Obj) : CB (W.alloc o) B cn cb :=
  ⟨by have := h.lt; simp; omega, Lib.cell?_alloc_some _ h.c0, Lib.cell?_alloc_some _ h.c1, by have := (Below.refl W.heap.size W).alloc (Nat.le_refl _) o; exact (this.frozen (p := ⟨B, 0, none⟩) h.lt).trans h.f0, by have := (Below.refl W.heap.size W).alloc (Nat.le_refl _) o; exact (this.frozen (p := ⟨B, 1, none⟩) h.lt).trans h.f1⟩
theorem cb_ne {B : Nat} {i j : Nat} (h : i ≠ j) : (⟨B, i, none⟩ : Addr) ≠ ⟨B, j, none⟩ := fun e => h (by injection e)
theorem CB.set0 {W : World} {B cn cb : Nat} (h : CB W B cn cb) {E : Int} {m : Nat} (e : E = m) : CB (W.setCell ⟨B, 0, none⟩ (.int .i64 E)) B m cb := by
  subst e
  exact ⟨by have := h.lt; simpa using this, st_same h.c0, (st_other (cb_ne (by decide))).trans h.c1, by simpa using h.f0, by simpa using h.f1⟩
theorem CB.set1 {W : World} {B cn cb : Nat} (h : CB W B cn cb) {E : Int} {m : Nat} (e : E = m) : CB (W.setCell ⟨B, 1, none⟩ (.int .i64 E)) B cn m := by
  subst e
  exact ⟨by have := h.lt; simpa using this, (st_other (cb_ne (by decide))).trans h.c0, st_same h.c1, by simpa using h.f0, by simpa using h.f1⟩
theorem ICells.grown {W W' : World} {row : Option Nat} (hg : W.grownBy W' row) {b o : Nat} {r : IRow} (hlt : b < W.heap.size) (hne : some b ≠ row) (h : ICells W b o r) : ICells W' b o r := by
  have e : ∀ i, W'.cell? ⟨b, i, none⟩ = W.cell? ⟨b, i, none⟩ := fun i => hg.cell_far ⟨b, i, none⟩ hlt hne
  obtain ⟨h0, h1, h2, h3, h4, h5, h6, h7⟩ := h
  exact ⟨(e _).trans h0, (e _).trans h1, (e _).trans h2, (e _).trans h3, (e _).trans h4, (e _).trans h5, (e _).trans h6, (e _).trans h7⟩
theorem XC.grown {W W' : World} {row : Option Nat} (hg : W.grownBy W' row) {X : Nat} {r : IRow} (hne : some X ≠ row) (h : XC W X r) : XC W' X r :=
  ⟨Nat.lt_of_lt_of_le h.lt hg.size, ICells.grown hg h.lt hne h.c⟩
theorem grow_set {W : World} {B i : Nat} {v : Value} : W.grownBy (W.setCell ⟨B, i, none⟩ v) (some B) := by
  refine ⟨rfl, rfl, rfl, by simp, fun k hk hne => ?_⟩
  have hk2 : B ≠ k := fun e => hne (by rw [e])
  unfold World.setCell
  simp [Array.getElem?_modify, hk2]
/-- The state of a round: what has been counted, and the item looked at. -/
structure ST (w : World) (B X : Nat) (r : IRow) (cn cb : Nat) (W : World) : Prop where
  g : w.grownBy W (some B)
  x : XC W X r
  c : CB W B cn cb
  ne : X ≠ B
theorem ST.new {w W : World} {B cn cb : Nat} {r : IRow} (hg : w.grownBy W (some B)) (hc : CB W B cn cb) : ST w B W.heap.size r cn cb (W.alloc (.cells #[.int .i64 r.k, .int .i64 r.ak, .string r.tx, .int .i64 r.tr, .int .i64 r.nd, r.ps, r.ms, r.fn] 30)) := by
  refine ⟨hg.trans (World.grownBy_alloc _ _ _), ⟨by simp, ?_⟩, hc.alloc _, fun e => by have := hc.lt; omega⟩
  refine ⟨?_, ?_, ?_, ?_, ?_, ?_, ?_, ?_⟩ <;> simp
theorem ST.newG {w W W' : World} {B cn cb : Nat} {r : IRow} (hg : w.grownBy W (some B)) (hg' : W.grownBy W' (some B)) (hW : W'.heap.size = W.heap.size) (hc : CB W' B cn cb) : ST w B W.heap.size r cn cb (W'.alloc (.cells #[.int .i64 r.k, .int .i64 r.ak, .string r.tx, .int .i64 r.tr, .int .i64 r.nd, r.ps, r.ms, r.fn] 30)) := by
  have := ST.new (r := r) (hg.trans hg') hc
  rwa [hW] at this
theorem ST.drew {w W : World} {B X cn cb : Nat} {r : IRow} (h : ST w B X r cn cb W) : ST w B X r cn cb W.drew :=
  ⟨⟨h.g.os, h.g.tape, h.g.output, h.g.size, h.g.block⟩, ⟨h.x.lt, h.x.c⟩, h.c.drew, h.ne⟩
theorem ST.set0 {w W : World} {B X cn cb : Nat} {r : IRow} (h : ST w B X r cn cb W) {E : Int} {m : Nat} (e : E = m) : ST w B X r m cb (W.setCell ⟨B, 0, none⟩ (.int .i64 E)) :=
  ⟨h.g.trans grow_set, h.x.grown grow_set (fun e => h.ne (by injection e)), h.c.set0 e, h.ne⟩
theorem ST.set1 {w W : World} {B X cn cb : Nat} {r : IRow} (h : ST w B X r cn cb W) {E : Int} {m : Nat} (e : E = m) : ST w B X r cn m (W.setCell ⟨B, 1, none⟩ (.int .i64 E)) :=
  ⟨h.g.trans grow_set, h.x.grown grow_set (fun e => h.ne (by injection e)), h.c.set1 e, h.ne⟩
theorem ST.call {w W W' : World} {B X cn cb cn' cb' : Nat} {r : IRow} (h : ST w B X r cn cb W) (hg : W.grownBy W' (some B)) (hc : CB W' B cn' cb') : ST w B X r cn' cb' W' :=
  ⟨h.g.trans hg, h.x.grown hg (fun e => h.ne (by injection e)), hc, h.ne⟩
theorem grow_below {w0 w W : World} {B : Nat} (h : Below w0.heap.size w0 w) (hB : w0.heap.size ≤ B) (hg : w.grownBy W (some B)) : Below w0.heap.size w0 W :=
  h.grown hg h.size fun k hk => by injection hk with hk; omega

end Go.Proofs.YtahidclhplmkiaaGreatDoor
/- item.Size: its closures. -/
namespace Go.Proofs.YtahidclhplmkiaaGreatDoor
open Go.RowKit
set_option linter.unusedVariables false
set_option linter.unusedSimpArgs false

/-- A world that has grown, and changed in some blocks alone. -/
structure GrB (w W : World) (S : Nat → Prop) : Prop where
  os : W.os = w.os
  tape : W.tape = w.tape
  output : W.output = w.output
  size : w.heap.size ≤ W.heap.size
  block : ∀ k, k < w.heap.size → ¬ S k → W.heap[k]? = w.heap[k]?
section
variable {S : Nat → Prop}
theorem GrB.refl (w : World) (S : Nat → Prop) : GrB w w S := ⟨rfl, rfl, rfl, Nat.le_refl _, fun _ _ _ => rfl⟩
theorem GrB.trans {a b c : World} (h : GrB a b S) (k : GrB b c S) : GrB a c S :=
  ⟨k.os.trans h.os, k.tape.trans h.tape, k.output.trans h.output, Nat.le_trans h.size k.size, fun i hi hs => (k.block i (Nat.lt_of_lt_of_le hi h.size) hs).trans (h.block i hi hs)⟩
theorem GrB.below {w0 w W : World} (h : Below w0.heap.size w0 w) (hS : ∀ k, S k → w0.heap.size ≤ k) (hg : GrB w W S) : Below w0.heap.size w0 W :=
  ⟨hg.os.trans h.os, hg.tape.trans h.tape, hg.output.trans h.output, Nat.le_trans h.size hg.size, fun k hk => (hg.block k (Nat.lt_of_lt_of_le hk h.size) (fun hs => by have := hS k hs; omega)).trans (h.block k hk)⟩
theorem GrB.alloc (w : World) (o : Obj) : GrB w (w.alloc o) S := by
  have := (Below.refl w.heap.size w).alloc (Nat.le_refl _) o
  exact ⟨this.os, this.tape, this.output, this.size, fun k hk _ => this.block k hk⟩
theorem GrB.drew (w : World) : GrB w w.drew S := by
  have := (Below.refl w.heap.size w).drew
  exact ⟨this.os, this.tape, this.output, this.size, fun k hk _ => this.block k hk⟩
theorem GrB.set {w : World} {B i : Nat} {v : Value} (h : S B) : GrB w (w.setCell ⟨B, i, none⟩ v) S := by
  have g : w.grownBy (w.setCell ⟨B, i, none⟩ v) (some B) := grow_set
  exact ⟨g.os, g.tape, g.output, g.size, fun k hk hs => g.block k hk (fun e => hs (by injection e with e; rw [e]; exact h))⟩
theorem GrB.of_below {w W : World} (h : Below w.heap.size w W) : GrB w W S := ⟨h.os, h.tape, h.output, h.size, fun k hk _ => h.block k hk⟩
theorem GrB.cell {w W : World} (h : GrB w W S) {b i : Nat} (hb : b < w.heap.size) (hs : ¬ S b) : W.cell? ⟨b, i, none⟩ = w.cell? ⟨b, i, none⟩ := World.cell?_of_block (a := ⟨b, i, none⟩) (h.block b hb hs)
theorem GrB.frozen {w W : World} (h : GrB w W S) {b i : Nat} (hb : b < w.heap.size) (hs : ¬ S b) : W.frozen? ⟨b, i, none⟩ = w.frozen? ⟨b, i, none⟩ := World.frozen?_of_block (a := ⟨b, i, none⟩) (h.block b hb hs)
theorem GrB.mono {S' : Nat → Prop} {w W : World} (h : GrB w W S) (hs : ∀ k, S k → S' k) : GrB w W S' := ⟨h.os, h.tape, h.output, h.size, fun k hk hn => h.block k hk (fun e => hn (hs k e))⟩
end

def addZ (H : Nat) : Value := .func (.func 83) #[] #[.pointer (some ⟨H, 0, none⟩), .pointer (some ⟨H + 1, 0, none⟩), .pointer (some ⟨H + 3, 0, none⟩)]
def partZ (H : Nat) : Value := .func (.func 82) #[] #[.pointer (some ⟨H, 0, none⟩), .pointer (some ⟨H + 1, 0, none⟩), .pointer (some ⟨H + 2, 0, none⟩)]
def SZ (H : Nat) (k : Nat) : Prop := k = H ∨ k = H + 1
/-- The variables of item.Size. -/
structure ZB (W : World) (H cn cb : Nat) : Prop where
  lt : H + 3 < W.heap.size
  n : W.cell? ⟨H, 0, none⟩ = some (.int .i64 (cn : Int))
  b : W.cell? ⟨H + 1, 0, none⟩ = some (.int .i64 (cb : Int))
  a : W.cell? ⟨H + 2, 0, none⟩ = some (addZ H)
  p : W.cell? ⟨H + 3, 0, none⟩ = some (partZ H)
  fn : W.frozen? ⟨H, 0, none⟩ = false
  fb : W.frozen? ⟨H + 1, 0, none⟩ = false
theorem addr_ne {b b' i j : Nat} (h : b ≠ b') : (⟨b, i, none⟩ : Addr) ≠ ⟨b', j, none⟩ := fun e => h (by injection e)
theorem ZB.drew {W : World} {H cn cb : Nat} (h : ZB W H cn cb) : ZB W.drew H cn cb := ⟨h.lt, h.n, h.b, h.a, h.p, h.fn, h.fb⟩
theorem ZB.alloc {W : World} {H cn cb : Nat} (h : ZB W H cn cb) (o : Obj) : ZB (W.alloc o) H cn cb := by
  have g := (Below.refl W.heap.size W).alloc (Nat.le_refl _) o
  have hl := h.lt
  exact ⟨Nat.lt_of_lt_of_le hl g.size, Lib.cell?_alloc_some _ h.n, Lib.cell?_alloc_some _ h.b, Lib.cell?_alloc_some _ h.a, Lib.cell?_alloc_some _ h.p,
    (g.frozen (p := ⟨H, 0, none⟩) (by show H < _; omega)).trans h.fn, (g.frozen (p := ⟨H + 1, 0, none⟩) (by show H + 1 < _; omega)).trans h.fb⟩
theorem ZB.setn {W : World} {H cn cb : Nat} (h : ZB W H cn cb) {E : Int} {m : Nat} (e : E = m) : ZB (W.setCell ⟨H, 0, none⟩ (.int .i64 E)) H m cb := by
  subst e
  exact ⟨by simpa using h.lt, st_same h.n, (st_other (addr_ne (by omega))).trans h.b, (st_other (addr_ne (by omega))).trans h.a, (st_other (addr_ne (by omega))).trans h.p, by simpa using h.fn, by simpa using h.fb⟩
theorem ZB.setb {W : World} {H cn cb : Nat} (h : ZB W H cn cb) {E : Int} {m : Nat} (e : E = m) : ZB (W.setCell ⟨H + 1, 0, none⟩ (.int .i64 E)) H cn m := by
  subst e
  exact ⟨by simpa using h.lt, (st_other (addr_ne (by omega))).trans h.n, st_same h.b, (st_other (addr_ne (by omega))).trans h.a, (st_other (addr_ne (by omega))).trans h.p, by simpa using h.fn, by simpa using h.fb⟩
/-- What item.Size's closures leave. -/
def PostZ (w : World) (H N Bt : Nat) (e : Ending) (w' : World) : Prop :=
  e = .returned (.bool (!ovB N Bt)) ∧ GrB w w' (SZ H) ∧ ∃ cn cb, ZB w' H cn cb ∧ (ovB N Bt = false → cn = N ∧ cb = Bt)
def AddZ (w0 : World) (d : Nat) : Prop := ∀ (v : Value) (n b : Nat) (f : List IRow) (w : World) (H N0 B0 : Nat), SqR w0 d v n b f → Below w0.heap.size w0 w → w0.heap.size ≤ H → ZB w H N0 B0 → N0 + n ≤ 4000000 → B0 + b ≤ 40000000 →
  Calls Tryz.prog 83 #[v, .pointer (some ⟨H, 0, none⟩), .pointer (some ⟨H + 1, 0, none⟩), .pointer (some ⟨H + 3, 0, none⟩)] w (PostZ w H (N0 + n) (B0 + b))
def PartZ (w0 : World) (d : Nat) : Prop := ∀ (s : ByteArray) (v : Value) (n b : Nat) (f : List IRow) (w : World) (H N0 B0 : Nat), SqR w0 d v n b f → Below w0.heap.size w0 w → w0.heap.size ≤ H → ZB w H N0 B0 → N0 + (1 + n) ≤ 4000000 → B0 + (s.size + b) ≤ 40000000 →
  Calls Tryz.prog 82 #[.string s, v, .pointer (some ⟨H, 0, none⟩), .pointer (some ⟨H + 1, 0, none⟩), .pointer (some ⟨H + 2, 0, none⟩)] w (PostZ w H (N0 + (1 + n)) (B0 + (s.size + b)))
theorem SZ.below {w0 w W : World} {H : Nat} (h : Below w0.heap.size w0 w) (hH : w0.heap.size ≤ H) (hg : GrB w W (SZ H)) : Below w0.heap.size w0 W :=
  GrB.below h (fun k hk => by rcases hk with rfl | rfl <;> omega) hg

set_option maxRecDepth 100000 in
theorem part_step (w0 : World) (d : Nat) (ih : AddZ w0 d) : PartZ w0 d := by
  intro s v n b f w H N0 B0 hs hb hH hz hN hB
  have hk := fun W hw z => ih v n b f W H (N0 + 1) (B0 + s.size) hs hw hH z (by omega) (by omega)
  have g : GrB w ((w.setCell ⟨H, 0, none⟩ (.int .i64 ((N0 : Int) + 1))).setCell ⟨H + 1, 0, none⟩ (.int .i64 ((B0 : Int) + (s.size : Int)))) (SZ H) := (GrB.set (.inl rfl)).trans (GrB.set (.inr rfl))
  have z : ZB ((w.setCell ⟨H, 0, none⟩ (.int .i64 ((N0 : Int) + 1))).setCell ⟨H + 1, 0, none⟩ (.int .i64 ((B0 : Int) + (s.size : Int)))) H (N0 + 1) (B0 + s.size) := (hz.setn (by omega)).setb (by omega)
  have K := Lib.hid (hk _ (SZ.below hb hH g) z)
  have G := Lib.hid g
  clear hk g z
  have e1 : N0 + 1 + n = N0 + (1 + n) := by omega
  have e2 : B0 + s.size + b = B0 + (s.size + b) := by omega
  rw [e1, e2] at K
  have HN := Lib.hid hN
  have HBB := Lib.hid hB
  have c1 := hz.n
  have c2 := hz.b
  have c3 := hz.a
  have c4 := hz.fn
  have c5 := hz.fb
  have q1 : N0 ≤ 4000000 := by omega
  have q2 : B0 + s.size ≤ 40000000 := by omega
  unfold addZ at c3
  clear hs hb hH hz hN hB e1 e2
  generalize N0 + (1 + n) = N at *
  generalize B0 + (s.size + b) = Bt at *
  go_enter Tryz.func82, Tryz.ntmps82
  go_wp2_with fail
  refine K.out.mono ?_
  rintro e w1 ⟨rfl, hg, hq⟩
  have HG := Lib.hid hg
  have HQ := Lib.hid hq
  clear hg hq
  go_wp2
  go_ret
  exact ⟨rfl, G.out.trans HG.out, HQ.out⟩
def RelZ (w : World) (P : IRow → Nat → Nat → List IRow → Prop) (l : List IRow) (H N Bt k : Nat) (W : World) : Prop :=
  GrB w W (SZ H) ∧ ∃ n1 b1 n2 b2 f2, ZB W H n1 b1 ∧ SumR P (l.drop k) n2 b2 f2 ∧ n1 + n2 = N ∧ b1 + b2 = Bt
/-- The state of a round. -/
structure STz (w : World) (H X : Nat) (r : IRow) (cn cb : Nat) (W : World) : Prop where
  g : GrB w W (SZ H)
  x : XC W X r
  z : ZB W H cn cb
  ne : H + 3 < X
theorem STz.new {w W : World} {H cn cb : Nat} {r : IRow} (hg : GrB w W (SZ H)) (hz : ZB W H cn cb) : STz w H W.heap.size r cn cb (W.alloc (.cells #[.int .i64 r.k, .int .i64 r.ak, .string r.tx, .int .i64 r.tr, .int .i64 r.nd, r.ps, r.ms, r.fn] 30)) := by
  refine ⟨hg.trans (GrB.alloc _ _), ⟨by simp, ?_⟩, hz.alloc _, hz.lt⟩
  refine ⟨?_, ?_, ?_, ?_, ?_, ?_, ?_, ?_⟩ <;> simp
theorem STz.newG {w W W' : World} {H cn cb : Nat} {r : IRow} (hg : GrB w W (SZ H)) (hg' : GrB W W' (SZ H)) (hW : W'.heap.size = W.heap.size) (hz : ZB W' H cn cb) : STz w H W.heap.size r cn cb (W'.alloc (.cells #[.int .i64 r.k, .int .i64 r.ak, .string r.tx, .int .i64 r.tr, .int .i64 r.nd, r.ps, r.ms, r.fn] 30)) := by
  have := STz.new (r := r) (hg.trans hg') hz
  rwa [hW] at this
theorem XC.grB {W W' : World} {S : Nat → Prop} (hg : GrB W W' S) {X : Nat} {r : IRow} (hs : ¬ S X) (h : XC W X r) : XC W' X r := by
  refine ⟨Nat.lt_of_lt_of_le h.lt hg.size, ?_⟩
  have e : ∀ i, W'.cell? ⟨X, i, none⟩ = W.cell? ⟨X, i, none⟩ := fun i => hg.cell h.lt hs
  obtain ⟨h0, h1, h2, h3, h4, h5, h6, h7⟩ := h.c
  exact ⟨(e _).trans h0, (e _).trans h1, (e _).trans h2, (e _).trans h3, (e _).trans h4, (e _).trans h5, (e _).trans h6, (e _).trans h7⟩
theorem STz.step {w W W' : World} {H X cn cb cn' cb' : Nat} {r : IRow} (h : STz w H X r cn cb W) (hg : GrB W W' (SZ H)) (hz : ZB W' H cn' cb') : STz w H X r cn' cb' W' :=
  ⟨h.g.trans hg, h.x.grB hg (fun e => by have := h.ne; rcases e with rfl | rfl <;> omega), hz, h.ne⟩
theorem STz.setn {w W : World} {H X cn cb : Nat} {r : IRow} (h : STz w H X r cn cb W) {E : Int} {m : Nat} (e : E = m) : STz w H X r m cb (W.setCell ⟨H, 0, none⟩ (.int .i64 E)) := h.step (GrB.set (.inl rfl)) (h.z.setn e)
theorem STz.setb {w W : World} {H X cn cb : Nat} {r : IRow} (h : STz w H X r cn cb W) {E : Int} {m : Nat} (e : E = m) : STz w H X r cn m (W.setCell ⟨H + 1, 0, none⟩ (.int .i64 E)) := h.step (GrB.set (.inr rfl)) (h.z.setb e)
theorem STz.alloc {w W : World} {H X cn cb : Nat} {r : IRow} (h : STz w H X r cn cb W) (o : Obj) : STz w H X r cn cb (W.alloc o) := h.step (GrB.alloc _ _) (h.z.alloc o)
def InZ {α : Type} (w : World) (H X : Nat) (r : IRow) (P : α → Nat → Nat → List IRow → Prop) (l : List α) (N Bt j : Nat) (W : World) : Prop :=
  ∃ n1 b1 n2 b2 f2, STz w H X r n1 b1 W ∧ SumR P (l.drop j) n2 b2 f2 ∧ n1 + n2 = N ∧ b1 + b2 = Bt
theorem InZ.end_ {α : Type} {w W : World} {H X : Nat} {r : IRow} {P : α → Nat → Nat → List IRow → Prop} {l : List α} {N Bt j : Nat} (h : InZ w H X r P l N Bt j W) (hj : l.length ≤ j) : STz w H X r N Bt W := by
  obtain ⟨n1, b1, n2, b2, f2, h1, h3, rfl, rfl⟩ := h
  rw [List.drop_eq_nil_of_le hj] at h3
  obtain ⟨rfl, rfl, rfl⟩ := h3.empty
  exact h1
theorem RelZ.start {w : World} {P : IRow → Nat → Nat → List IRow → Prop} {l : List IRow} {H N0 B0 n b : Nat} {f : List IRow} (hs : SumR P l n b f) (hz : ZB w H N0 B0) : RelZ w P l H (N0 + n) (B0 + b) 0 w :=
  ⟨GrB.refl _ _, N0, B0, n, b, f, hz, hs, rfl, rfl⟩
end Go.Proofs.YtahidclhplmkiaaGreatDoor
/- Rows of the call's own, as rows that are read; slices.Clone of members. -/
namespace Go.Proofs.YtahidclhplmkiaaGreatDoor
open Go.RowKit
set_option linter.unusedVariables false
set_option linter.unusedSimpArgs false

theorem flat_len {wd : Nat} : ∀ (rows : List (List Value)), (∀ r, r ∈ rows → r.length = wd) → rows.flatten.length = rows.length * wd
  | [], _ => by simp
  | r :: rows, h => by
    rw [List.flatten_cons, List.length_append, h r (List.mem_cons_self ..), flat_len rows fun x hx => h x (List.mem_cons_of_mem _ hx), List.length_cons, Nat.succ_mul, Nat.add_comm]
theorem flat_get {wd : Nat} : ∀ (rows : List (List Value)), (∀ r, r ∈ rows → r.length = wd) → ∀ j i, j < rows.length → i < wd → rows.flatten[j * wd + i]? = some ((rows.getD j []).getD i undef)
  | [], _, j, i, hj, _ => absurd hj (by simp)
  | r :: rows, h, 0, i, _, hi => by
    have hr := h r (List.mem_cons_self ..)
    rw [List.flatten_cons, Nat.zero_mul, Nat.zero_add, List.getElem?_append_left (by omega)]
    simp [List.getD_eq_getElem?_getD, List.getElem?_eq_getElem (show i < r.length by omega)]
  | r :: rows, h, j + 1, i, hj, hi => by
    have hr := h r (List.mem_cons_self ..)
    have := flat_get rows (fun x hx => h x (List.mem_cons_of_mem _ hx)) j i (by simpa using hj) hi
    rw [List.flatten_cons, List.getElem?_append_right (by rw [hr, Nat.succ_mul]; omega), hr, show (j + 1) * wd + i - wd = j * wd + i by rw [Nat.succ_mul]; omega, this]
    simp [List.getD_eq_getElem?_getD]
/-- A row that the call owns reads as its rows. -/
theorem own_capd {W : World} {base : Nat} {e : TypeId} {wd n : Nat} {A : Option Addr} {m c : Nat} {xs : List Value} (h : W.ownsRow base e wd (.slice A m c) n xs) : m = n ∧ Capd A n c := by
  rcases h.2 with ⟨e, rfl⟩ | ⟨g, cap, cur, e, _, _, h3, h4, _⟩
  · cases e; exact ⟨rfl, fun _ => rfl, Nat.le_refl _, by simp⟩
  · cases e; exact ⟨rfl, fun e => (by cases e), h3, h4⟩
theorem rows_of_own {W : World} {base : Nat} {e : TypeId} {wd n : Nat} {v : Value} {rows : List (List Value)} (h : W.ownsRow base e wd v n rows.flatten) (hl : rows.length = n) (hw : ∀ r, r ∈ rows → r.length = wd) (hn : n ≤ maxLen) : RdRows W wd rows v := by
  subst hl
  rcases Nat.eq_zero_or_pos rows.length with h0 | h0
  · obtain rfl := List.length_eq_zero_iff.1 h0
    rcases h.2 with ⟨rfl, _⟩ | ⟨g, cap, cur, rfl, _⟩
    · exact RdRows.nil W wd none 0 (own_capd h).2
    · exact RdRows.nil W wd _ cap (own_capd h).2
  · obtain ⟨g, cap, rfl, hb, hlt⟩ := h.form h0
    refine ⟨_, cap, rfl, (own_capd h).2, fun _ => ⟨g, 0, rfl, hlt, fun j hj i hi => ?_⟩⟩
    have hji : j * wd + i < rows.length * wd := by
      have : (j + 1) * wd ≤ rows.length * wd := Nat.mul_le_mul_right wd hj
      rw [Nat.succ_mul] at this; omega
    rw [Nat.zero_add, h.cellAt (j * wd + i) hji]
    exact flat_get rows hw j i hj hi
/-- The cells of rows that are read, one behind the other. -/
theorem RdRows.cells {w : World} {wd : Nat} {rows : List (List Value)} {b off n c : Nat} (h : RdRows w wd rows (.slice (some ⟨b, off, none⟩) n c)) (hw : ∀ r, r ∈ rows → r.length = wd) (hwd : 0 < wd) : ∀ j u, rows.flatten[j]? = some u → w.cell? ⟨b, off + j, none⟩ = some u := by
  obtain ⟨h1, h2, h3⟩ := RdRows.slice h
  intro j u hj
  have hlt : j < rows.length * wd := by
    have := (List.getElem?_eq_some_iff.1 hj).1
    rwa [flat_len rows hw] at this
  have hn : 0 < n := by
    rcases Nat.eq_zero_or_pos n with e | e
    · rw [h1, e] at hlt; omega
    · exact e
  obtain ⟨b', off', e, _, hc⟩ := h3 hn
  cases e
  have hq : j / wd < n := by rw [← h1]; exact (Nat.div_lt_iff_lt_mul hwd).2 hlt
  have hr : j % wd < wd := Nat.mod_lt _ hwd
  have e2 : j / wd * wd + j % wd = j := by rw [Nat.mul_comm]; exact Nat.div_add_mod j wd
  have := hc (j / wd) hq (j % wd) hr
  rw [Nat.add_assoc, e2] at this
  rw [this]
  have g := flat_get rows hw (j / wd) (j % wd) (by rw [h1]; exact hq) hr
  rw [e2, hj] at g
  exact g.symm
/-- Members of the call's own. -/
def OwnM (W : World) (base : Nat) (v : Value) (ms : List Value) : Prop := W.ownsRow base 22 1 v ms.length ms
theorem one_flat (ms : List Value) : (ms.map fun x => [x]).flatten = ms := by
  induction ms with
  | nil => rfl
  | cons x l ih => simp [ih]
theorem OwnM.reads {W : World} {base : Nat} {v : Value} {ms : List Value} (h : OwnM W base v ms) (hn : ms.length ≤ maxLen) : RdM W ms v := by
  refine rows_of_own (by rw [one_flat]; exact h) (by simp) (fun r hr => ?_) hn
  obtain ⟨x, _, rfl⟩ := List.mem_map.1 hr
  rfl
theorem RdM.cells {w : World} {ms : List Value} {b off n c : Nat} (h : RdM w ms (.slice (some ⟨b, off, none⟩) n c)) : ∀ j u, ms[j]? = some u → w.cell? ⟨b, off + j, none⟩ = some u := by
  have := RdRows.cells h (fun r hr => by obtain ⟨x, _, rfl⟩ := List.mem_map.1 hr; rfl) (by decide)
  rwa [one_flat] at this
theorem info_qI : (Tryz.prog.info? 22).map (fun i => (i.zero, i.size, i.bytes)) = some (some (.slice none 0 0), 1, 24) := by kernel_rfl

set_option maxRecDepth 100000 in
theorem cloneM_any (ms : List Value) (v : Value) (w : World) (h : RdM w ms v) (hn : ms.length ≤ 1000000) (h1 : ∀ m, m ∈ ms → m.oneCell' = true) :
    Calls Tryz.prog 36 #[v] w fun e w' => ∃ v', e = .returned v' ∧ OwnM w' w.heap.size v' ms ∧ Below w.heap.size w w' := by
  obtain ⟨A, c, rfl, hc⟩ := h.form
  have HR := Lib.hid h
  have H1 := Lib.hid h1
  clear h h1
  have q88 : ∀ (w : World) (a : Option Addr) (n c n' c' : Nat), (binOp .eql 23 (.slice a n c) (.slice none n' c')).run Tryz.prog w = .ok (.bool a.isNone) w := fun w a n c n' c' => Lib.run_eql_slice_nil w _ _ a n c n' c' Tryz.underlying23
  obtain ⟨i0, hi, hz0, hz1, hz2⟩ := info_parts info_qI
  rcases A with _ | ad
  · have h0 : ms.length = 0 := by
      rcases Nat.eq_zero_or_pos ms.length with e | e
      · exact e
      · obtain ⟨b, off, _, e2, _⟩ := HR.out.row (Below.refl _ _) e; cases e2
    obtain rfl : ms = [] := List.length_eq_zero_iff.1 h0
    go_enter Tryz.func36, Tryz.ntmps36
    go_wp2
    go_ret
    exact ⟨_, rfl, World.ownsRow_nil _ _ _ _, Below.refl _ _⟩
  · have HN := Lib.hid hn
    go_enter Tryz.func36, Tryz.ntmps36
    go_wp2_with (at_builtin; refine wpList_append_own _ rfl _ _ 23 rfl w.heap.size 22 i0 (.slice none 0 0) 1 24 Tryz.underlying23 hi hz0 hz1 hz2 rfl (by decide) _ _ _ rfl (World.ownsRow_made w #[] 0 (Nat.le_refl _) (Nat.zero_le _) rfl) ad ms.length c ms rfl ?qc1 ?qc2 ?qc3 ?qc4 ?qc5 ?qc6 ?_)
    case qc1 => simp
    case qc2 =>
      intro j u hj
      have hjn : j < ms.length := (List.getElem?_eq_some_iff.1 hj).1
      obtain ⟨b, off, _, e, hlt, _⟩ := HR.out.row (Below.refl _ _) (show 0 < ms.length by omega)
      cases e
      rw [Addr.add_lit]
      exact Lib.cell?_alloc_some _ (HR.out.cells j u hj)
    case qc3 => exact fun u hu => H1.out u hu
    case qc4 => have := HN.out; simp only [maxLen]; omega
    case qc5 => have := HN.out; omega
    case qc6 => simp
    intro v' w' ho hg hnil
    have HB : Below w.heap.size w w' := ((Below.refl _ _).alloc (Nat.le_refl _) _).grown hg (by simp) (fun k hk => by injection hk with hk; subst hk; exact Nat.le_refl _)
    have HO := Lib.hid ho
    clear ho hg hnil
    go_wp2
    go_ret
    exact ⟨_, rfl, HO.out, HB⟩
end Go.Proofs.YtahidclhplmkiaaGreatDoor
/- Entries of the call's own; slices.Clone of entries. -/
namespace Go.Proofs.YtahidclhplmkiaaGreatDoor
open Go.RowKit
set_option linter.unusedVariables false
set_option linter.unusedSimpArgs false

def pflat (l : List PRow) : List Value := (l.map PRow.cells).flatten
theorem pflat_append (a b : List PRow) : pflat (a ++ b) = pflat a ++ pflat b := by simp [pflat]
theorem cells3 (l : List PRow) : ∀ r, r ∈ l.map PRow.cells → r.length = 3 := fun r hr => by
  obtain ⟨x, _, rfl⟩ := List.mem_map.1 hr; rfl
theorem pflat_len (l : List PRow) : (pflat l).length = l.length * 3 := by
  have := flat_len (l.map PRow.cells) (cells3 l)
  simpa [pflat] using this
theorem pflat_one (l : List PRow) (h1 : ∀ p, p ∈ l → p.v.oneCell' = true) : ∀ u, u ∈ pflat l → u.oneCell' = true := fun u hu => by
  obtain ⟨c, hc, hu⟩ := List.mem_flatten.1 hu
  obtain ⟨p, hp, rfl⟩ := List.mem_map.1 hc
  simp only [PRow.cells, List.mem_cons, List.not_mem_nil, or_false] at hu
  rcases hu with rfl | rfl | rfl
  · rfl
  · rfl
  · exact h1 p hp
/-- Entries of the call's own. -/
def OwnP (W : World) (base : Nat) (v : Value) (l : List PRow) : Prop := W.ownsRow base 33 3 v l.length (pflat l)
theorem OwnP.reads {W : World} {base : Nat} {v : Value} {l : List PRow} (h : OwnP W base v l) (hn : l.length ≤ maxLen) : RdP W l v :=
  rows_of_own h (by simp) (cells3 l) hn
theorem RdP.cells {w : World} {l : List PRow} {b off n c : Nat} (h : RdP w l (.slice (some ⟨b, off, none⟩) n c)) : ∀ j u, (pflat l)[j]? = some u → w.cell? ⟨b, off + j, none⟩ = some u :=
  RdRows.cells h (cells3 l) (by decide)
theorem info_pair : (Tryz.prog.info? 33).map (fun i => (i.zero, i.size, i.bytes)) = some (some (.agg #[.int .i64 0, .string { data := #[] }, .slice none 0 0]), 3, 48) := by kernel_rfl

set_option maxRecDepth 100000 in
theorem cloneP_any (l : List PRow) (v : Value) (w : World) (h : RdP w l v) (hn : l.length ≤ 1000000) (h1 : ∀ p, p ∈ l → p.v.oneCell' = true) :
    Calls Tryz.prog 22 #[v] w fun e w' => ∃ v', e = .returned v' ∧ OwnP w' w.heap.size v' l ∧ Below w.heap.size w w' := by
  obtain ⟨A, c, rfl, hc⟩ := h.form
  have HR := Lib.hid h
  have H1 := Lib.hid h1
  clear h h1
  have q88 : ∀ (w : World) (a : Option Addr) (n c n' c' : Nat), (binOp .eql 27 (.slice a n c) (.slice none n' c')).run Tryz.prog w = .ok (.bool a.isNone) w := fun w a n c n' c' => Lib.run_eql_slice_nil w _ _ a n c n' c' Tryz.underlying27
  obtain ⟨i0, hi, hz0, hz1, hz2⟩ := info_parts info_pair
  rcases A with _ | ad
  · have h0 : l.length = 0 := by
      rcases Nat.eq_zero_or_pos l.length with e | e
      · exact e
      · obtain ⟨b, off, _, e2, _⟩ := HR.out.row (Below.refl _ _) e; cases e2
    obtain rfl : l = [] := List.length_eq_zero_iff.1 h0
    go_enter Tryz.func22, Tryz.ntmps22
    go_wp2
    go_ret
    exact ⟨_, rfl, World.ownsRow_nil _ _ _ _, Below.refl _ _⟩
  · have HN := Lib.hid hn
    go_enter Tryz.func22, Tryz.ntmps22
    go_wp2_with (at_builtin; refine wpList_append_own _ rfl _ _ 27 rfl w.heap.size 33 i0 _ 3 48 Tryz.underlying27 hi hz0 hz1 hz2 rfl (by decide) _ _ _ rfl (World.ownsRow_made w #[] 0 (Nat.le_refl _) (Nat.zero_le _) rfl) ad l.length c (pflat l) rfl ?qc1 ?qc2 ?qc3 ?qc4 ?qc5 ?qc6 ?_)
    case qc1 => exact pflat_len l
    case qc2 =>
      intro j u hj
      have hjn : j < (pflat l).length := (List.getElem?_eq_some_iff.1 hj).1
      obtain ⟨b, off, _, e, hlt, _⟩ := HR.out.row (Below.refl _ _) (show 0 < l.length by rw [pflat_len] at hjn; omega)
      cases e
      rw [Addr.add_lit]
      exact Lib.cell?_alloc_some _ (HR.out.cells j u hj)
    case qc3 => exact pflat_one l H1.out
    case qc4 => have := HN.out; simp only [maxLen]; omega
    case qc5 => have := HN.out; omega
    case qc6 => simp
    intro v' w' ho hg hnil
    have HB : Below w.heap.size w w' := ((Below.refl _ _).alloc (Nat.le_refl _) _).grown hg (by simp) (fun k hk => by injection hk with hk; subst hk; exact Nat.le_refl _)
    have HO : Hid (OwnP w' w.heap.size v' l) := Lib.hid (by simpa [OwnP] using ho)
    clear ho hg hnil
    go_wp2
    go_ret
    exact ⟨_, rfl, HO.out, HB⟩
end Go.Proofs.YtahidclhplmkiaaGreatDoor
/- Flatten: rows of items of the call's own; the program's closure and the reference's flat. -/
namespace Go.Proofs.YtahidclhplmkiaaGreatDoor
open Go.RowKit
set_option linter.unusedVariables false
set_option linter.unusedSimpArgs false

def iflat (l : List IRow) : List Value := (l.map IRow.cells).flatten
theorem iflat_append (a b : List IRow) : iflat (a ++ b) = iflat a ++ iflat b := by simp [iflat]
/-- Items of the call's own. -/
def OwnI (W : World) (base : Nat) (v : Value) (l : List IRow) : Prop := W.ownsRow base 30 8 v l.length (iflat l)
theorem cells8 (r : IRow) : r.cells.length = 8 := rfl
theorem cells_all8 (l : List IRow) : ∀ r, r ∈ l.map IRow.cells → r.length = 8 := fun r hr => by
  obtain ⟨x, _, rfl⟩ := List.mem_map.1 hr; rfl
theorem OwnI.reads {W : World} {base : Nat} {v : Value} {l : List IRow} (h : OwnI W base v l) (hn : l.length ≤ maxLen) : RdI W l v :=
  rows_of_own h (by simp) (cells_all8 l) hn
theorem OwnI.form {W : World} {base : Nat} {v : Value} {l : List IRow} (h : OwnI W base v l) : ∃ A c, v = .slice A l.length c := by
  rcases h.2 with ⟨rfl, h1⟩ | ⟨g, cap, cur, rfl, _⟩
  · exact ⟨none, 0, by rw [h1]⟩
  · exact ⟨_, _, rfl⟩
theorem OwnI.kept {W W' : World} {base : Nat} {v : Value} {l : List IRow} {S : Nat → Prop} (h : OwnI W base v l) (hg : GrB W W' S) (hs : ∀ k, v.ownBlock = some k → ¬ S k) : OwnI W' base v l := by
  refine ⟨h.1, ?_⟩
  rcases h.2 with h1 | ⟨g, cap, cur, rfl, h2, h3, h4⟩
  · exact .inl h1
  · exact .inr ⟨g, cap, cur, rfl, h2, (hg.block g (Array.getElem?_eq_some_iff.1 h3).1 (hs g rfl)).trans h3, h4⟩
theorem OwnI.nil (W : World) (base : Nat) : OwnI W base (.slice none 0 0) [] := World.ownsRow_nil _ _ _ _
theorem GrB.of_grown {w W : World} {row : Option Nat} {S : Nat → Prop} (h : w.grownBy W row) (hs : ∀ k, row = some k → S k) : GrB w W S :=
  ⟨h.os, h.tape, h.output, h.size, fun k hk hn => h.block k hk (fun e => hn (hs k e.symm))⟩
theorem info_item : (Tryz.prog.info? 30).map (fun i => (i.zero, i.size, i.bytes)) = some (some (.agg #[.int .i64 0, .int .i64 0, .string { data := #[] }, .int .i64 0, .int .i64 0, .slice none 0 0, .slice none 0 0, .pointer none]), 8, 104) := by kernel_rfl
/-- append of one item, which stands in a new block, to a row of the call's own. -/
theorem appI {ops : Array Oper} {rest : List Oper} {o : Oper} {a : Act} {Q : Exit → Act → World → Prop} {W : World} (base : Nat) (hgd : o.guard = none) (s x : Operand)
    (ho : o.op = .call { callee := .builtin .append, args := #[s, x], argTypes := #[22, 22] })
    (v : Value) (l : List IRow) (hs : a.eval s = v) (r : IRow) (hok : ROk r) (B : Nat) (hB : W.heap.size = B) (hx : a.eval x = .slice (some ⟨B, 0, none⟩) 1 1)
    (HO : OwnI W base v l) (hbase : base ≤ W.heap.size) (hl : l.length + 1 ≤ 1000000)
    (h : ∀ g cap w1, OwnI w1 base (.slice (some ⟨g, 0, none⟩) (l.length + 1) cap) (l ++ [r]) → W.grownBy w1 v.ownBlock → (∀ k, g = k → v.ownBlock = some k ∨ W.heap.size ≤ k) → W.heap.size < w1.heap.size →
      wpList Tryz.prog ops Q rest (a.put o.dst (.slice (some ⟨g, 0, none⟩) (l.length + 1) cap)) w1) :
    wpList Tryz.prog ops Q (o :: rest) a (W.alloc (.cells #[.int .i64 r.k, .int .i64 r.ak, .string r.tx, .int .i64 r.tr, .int .i64 r.nd, r.ps, r.ms, r.fn] 30)) := by
  obtain ⟨i0, hi, hz0, hz1, hz2⟩ := info_parts info_item
  subst hB
  refine wpList_append_lies _ hgd s x 22 ho base 30 i0 _ 8 104 Tryz.underlying22 hi hz0 hz1 hz2 rfl (by decide) v l.length (iflat l) hs (World.ownsRow.alloc HO _) ⟨W.heap.size, 0, none⟩ 1 1 r.cells hx rfl
    (World.news_of_block (cs := #[.int .i64 r.k, .int .i64 r.ak, .string r.tx, .int .i64 r.tr, .int .i64 r.nd, r.ps, r.ms, r.fn]) (t := 30) (fr := (0, 0)) (heap_alloc_new W _)) ?_ (by decide) (by simp only [maxLen]; omega) (by omega) (by simp; omega) (W.heap.size + 1) (by simp) ?_
  · intro u hu
    simp only [IRow.cells, List.mem_cons, List.not_mem_nil, or_false] at hu
    rcases hu with rfl | rfl | rfl | rfl | rfl | rfl | rfl | rfl
    · rfl
    · rfl
    · rfl
    · rfl
    · rfl
    · exact hok.ps
    · exact hok.ms
    · exact hok.fn
  · intro g cap w1 ho hg hw hlt
    have e : iflat (l ++ [r]) = iflat l ++ r.cells := by rw [iflat_append]; simp [iflat]
    refine h g cap w1 ?_ ((World.grownBy_alloc W _ _).trans hg) (fun k hk => ?_) (by have := hg.size; simp at this; omega)
    · unfold OwnI
      rw [e]; simpa using ho
    · subst hk
      rcases hw with hw | hw
      · exact .inl hw
      · right; omega

theorem take_take_app {α : Type} (a b : List α) (N : Nat) : ((a.take N) ++ b).take N = (a ++ b).take N := by
  rw [List.take_append, List.take_append, List.take_take, Nat.min_self, List.length_take]
  rcases Nat.lt_or_ge a.length N with h | h
  · rw [Nat.min_eq_right (by omega)]
  · rw [Nat.min_eq_left h, Nat.sub_self, show N - a.length = 0 by omega]
theorem take_full {α : Type} {a : List α} {N : Nat} (b : List α) (h : (a.take N).length = N) : (a ++ b).take N = a.take N := by
  rw [List.length_take] at h
  rw [List.take_append_of_le_length (by omega)]
def flatZ (Bo : Nat) : Value := .func (.func 39) #[] #[.pointer (some ⟨Bo, 0, none⟩), .pointer (some ⟨Bo + 1, 0, none⟩)]
/-- The variables of maps.Flatten. -/
structure FB (W : World) (Bo : Nat) (u : Value) : Prop where
  lt : Bo + 1 < W.heap.size
  o : W.cell? ⟨Bo, 0, none⟩ = some u
  a : W.cell? ⟨Bo + 1, 0, none⟩ = some (flatZ Bo)
  fo : W.frozen? ⟨Bo, 0, none⟩ = false
def SF (Bo : Nat) (u : Value) (k : Nat) : Prop := k = Bo ∨ u.ownBlock = some k
/-- What the program's closure leaves. -/
structure FlS (w : World) (Bo base : Nat) (u : Value) (o : List IRow) (W : World) (u' : Value) : Prop where
  fb : FB W Bo u'
  own : OwnI W base u' o
  g : GrB w W (SF Bo u)
  blk : ∀ k, u'.ownBlock = some k → u.ownBlock = some k ∨ w.heap.size ≤ k
def FlPost (w : World) (Bo base : Nat) (u : Value) (o : List IRow) (e : Ending) (W : World) : Prop := e = .returned (.tuple #[]) ∧ ∃ u', FlS w Bo base u o W u'
theorem FlS.trans {w W W2 : World} {Bo base : Nat} {u u1 u2 : Value} {o o2 : List IRow} (h : FlS w Bo base u o W u1) (k : FlS W Bo base u1 o2 W2 u2) : FlS w Bo base u o2 W2 u2 := by
  refine ⟨k.fb, k.own, ⟨k.g.os.trans h.g.os, k.g.tape.trans h.g.tape, k.g.output.trans h.g.output, Nat.le_trans h.g.size k.g.size, fun i hi hs => (k.g.block i (Nat.lt_of_lt_of_le hi h.g.size) (fun e => ?_)).trans (h.g.block i hi hs)⟩, fun q hq => ?_⟩
  · rcases e with e | e
    · exact hs (.inl e)
    · rcases h.blk i e with e | e
      · exact hs (.inr e)
      · omega
  · rcases k.blk q hq with e | e
    · exact h.blk q e
    · exact .inr (Nat.le_trans h.g.size e)
def FlOK (w0 : World) (d : Nat) : Prop := ∀ (v : Value) (n b : Nat) (f : List IRow) (w : World) (Bo base : Nat) (o : List IRow) (u : Value), SqR w0 d v n b f → Below w0.heap.size w0 w → w0.heap.size ≤ Bo → Bo + 1 < base → base ≤ w.heap.size → FlS w Bo base u o w u → o.length ≤ 65536 →
  Calls Tryz.prog 39 #[v, .pointer (some ⟨Bo, 0, none⟩), .pointer (some ⟨Bo + 1, 0, none⟩)] w (FlPost w Bo base u ((o ++ f).take 65536))
def FlRel (w : World) (Bo base : Nat) (u : Value) (o f : List IRow) (P : IRow → Nat → Nat → List IRow → Prop) (l : List IRow) (k : Nat) (W : World) : Prop :=
  ∃ u1 f1 n2 b2 f2, FlS w Bo base u ((o ++ f1).take 65536) W u1 ∧ SumR P (l.drop k) n2 b2 f2 ∧ f = f1 ++ f2
end Go.Proofs.YtahidclhplmkiaaGreatDoor
/- maps.Flatten: its closure, at any sequence. -/
namespace Go.Proofs.YtahidclhplmkiaaGreatDoor
open Go.RowKit
set_option linter.unusedVariables false
set_option linter.unusedSimpArgs false

theorem FlS.self {w : World} {Bo base : Nat} {u : Value} {o : List IRow} {W : World} {u' : Value} (h : FlS w Bo base u o W u') : FlS W Bo base u' o W u' := ⟨h.fb, h.own, GrB.refl _ _, fun k hk => .inl hk⟩
theorem FlS.below {w0 w : World} {Bo base : Nat} {u : Value} {o o' : List IRow} {W : World} {u' : Value} (h : FlS w Bo base u o W u') (hb : Below w0.heap.size w0 w) (hB : w0.heap.size ≤ Bo) (hbase : Bo + 1 < base) (h0 : OwnI w base u o') : Below w0.heap.size w0 W := by
  refine GrB.below hb (fun k hk => ?_) h.g
  rcases hk with rfl | hk
  · exact hB
  · have := (World.ownsRow.lt h0 k hk).1
    omega
theorem fl_push {w : World} {Bo base : Nat} {u v' : Value} {o : List IRow} {r : IRow} {w1 : World} (hbase : Bo + 1 < base) (hfb : FB w Bo u) (h0 : OwnI w base u o) (ho : OwnI w1 base v' (o ++ [r])) (hg : w.grownBy w1 u.ownBlock)
    (hblk : ∀ k, v'.ownBlock = some k → u.ownBlock = some k ∨ w.heap.size ≤ k) :
    (w1.cell? ⟨Bo, 0, none⟩ = some u ∧ w1.frozen? ⟨Bo, 0, none⟩ = false ∧ Bo < w1.heap.size) ∧ FlS w Bo base u (o ++ [r]) (w1.setCell ⟨Bo, 0, none⟩ v') v' := by
  have g1 := hg
  have hne : ∀ j, j < base → some j ≠ u.ownBlock := fun j hj e => by
    have := (World.ownsRow.lt h0 j e.symm).1
    omega
  have l0 := hfb.lt
  have c0 : w1.cell? ⟨Bo, 0, none⟩ = some u := (g1.cell_far ⟨Bo, 0, none⟩ (by show Bo < _; omega) (hne Bo (by omega))).trans hfb.o
  have ca : w1.cell? ⟨Bo + 1, 0, none⟩ = some (flatZ Bo) := (g1.cell_far ⟨Bo + 1, 0, none⟩ (by show Bo + 1 < _; omega) (hne (Bo + 1) (by omega))).trans hfb.a
  have f0 : w1.frozen? ⟨Bo, 0, none⟩ = false := (g1.frozen_far ⟨Bo, 0, none⟩ (by show Bo < _; omega) (hne Bo (by omega))).trans hfb.fo
  have hz := g1.size
  refine ⟨⟨c0, f0, by omega⟩, ⟨by simp; omega, st_same c0, (st_other (addr_ne (by omega))).trans ca, by simpa using f0⟩, ?_, ?_, hblk⟩
  · refine OwnI.kept ho (GrB.set (S := fun k => k = Bo) rfl) fun k hk e => ?_
    subst e
    have := (World.ownsRow.lt ho k hk).1
    omega
  · exact (GrB.of_grown g1 (fun k hk => .inr hk)).trans (GrB.set (.inl rfl))
def FlIn (w : World) (Bo base : Nat) (u : Value) (o f : List IRow) (P : Value → Nat → Nat → List IRow → Prop) (l : List Value) (k : Nat) (W : World) : Prop :=
  ∃ u1 f1 n2 b2 f2, FlS w Bo base u ((o ++ f1).take 65536) W u1 ∧ SumR P (l.drop k) n2 b2 f2 ∧ f = f1 ++ f2

set_option maxRecDepth 100000 in
set_option maxHeartbeats 8000000 in
theorem fl_step (w0 : World) (d : Nat) (ih : FlOK w0 d) : FlOK w0 (d + 1) := by
  intro v n b f w Bo base o u hs hb hB hbase hbw hfl ho
  obtain ⟨l, hl, hsum⟩ := hs
  obtain ⟨A, c, rfl, hm⟩ := hl.form
  have HL := Lib.hid hl
  have IH := Lib.hid ih
  have HBL : Hid (∀ {o' W u'}, FlS w Bo base u o' W u' → Below w0.heap.size w0 W) := fun h => h.below hb hB hbase hfl.own
  have HBB := Lib.hid hB
  have HBASE := Lib.hid hbase
  have HBW := Lib.hid hbw
  have HS : Hid (FlRel w Bo base u o f (ItP w0 (SqR w0 d)) l 0 w) := ⟨u, [], n, b, f, by rw [List.append_nil, List.take_of_length_le ho]; exact hfl, hsum, rfl⟩
  unfold maxLen at hm
  clear hl ih hb hB hsum hfl ho hbase hbw
  generalize hn : l.length = m at *
  have HM := Lib.hid hn
  clear hn
  go_enter Tryz.func39, Tryz.ntmps39
  go_wp2
  go_loopw [10] (fun i wr => ∃ k : Nat, k ≤ m ∧ i = .int .i64 k ∧ Hid (FlRel w Bo base u o f (ItP w0 (SqR w0 d)) l k wr)) (fun i _ => m - (intOf i).toNat)
  case atStart => exact ⟨0, Nat.zero_le _, rfl, HS⟩
  case round =>
    obtain ⟨k, hk, rfl, HR⟩ := hrel
    obtain ⟨u1, f1, n2, b2, f2, hfl, hs, hf⟩ := HR.out
    clear HR
    by_cases hlt : k < m
    · obtain ⟨T, hT⟩ : ∃ T, T = List.take 65536 (o ++ f1) := ⟨_, rfl⟩
      rw [← hT] at hfl
      have HT := Lib.hid hT
      have hq : T.length ≤ 65536 := by rw [hT, List.length_take]; omega
      clear hT
      have hbel := HBL.out hfl
      obtain ⟨bI, off, r, rfl, hbI, hget, hdrop, g0, g1, g2, g3, g4, g5, g6, g7⟩ := HL.out.row hbel hlt
      rw [hdrop] at hs
      obtain ⟨n3, b3, f3, n4, b4, f4, hit, hs', rfl, rfl, rfl⟩ := hs.head
      obtain ⟨A1, c1, rfl⟩ := hfl.own.form
      have hbn : bI < wr.heap.size := by have := hbel.size; omega
      have z1 := hfl.fb.o
      have z2 := hfl.fb.a
      have z3 := hfl.fb.fo
      have z4 : Bo < wr.heap.size := by have := hfl.fb.lt; omega
      have z5 : Bo + 1 < wr.heap.size := hfl.fb.lt
      unfold flatZ at z2
      have hbz : base ≤ wr.heap.size := by have := HBW.out; have := hfl.g.size; omega
      have HF := Lib.hid hf
      have HFL := Lib.hid hfl
      have HS' := Lib.hid hs'
      have hok := hit.1
      have sps := fun w a m => run_store Tryz.prog w a _ m hok.ps
      have sms := fun w a m => run_store Tryz.prog w a _ m hok.ms
      have sfn := fun w a m => run_store Tryz.prog w a _ m hok.fn
      have hps := hok.ps
      have hms := hok.ms
      have hfn := hok.fn
      have HOK := Lib.hid hok
      clear hf hfl hs hs' hdrop hget hbI hbel hok
      by_cases hfull : T.length = 65536
      · have HP : Hid (FlPost w Bo base u ((o ++ f).take 65536) (.returned (.tuple #[])) (wr.alloc (.cells #[.int .i64 r.k, .int .i64 r.ak, .string r.tx, .int .i64 r.tr, .int .i64 r.nd, r.ps, r.ms, r.fn] 30))) := by
          refine ⟨rfl, .slice A1 T.length c1, ?_⟩
          rw [HF.out, ← List.append_assoc, take_full _ (by rw [← HT.out]; exact hfull), ← HT.out]
          refine HFL.out.trans ⟨⟨by have := HFL.out.fb.lt; simp; omega, Lib.cell?_alloc_some _ HFL.out.fb.o, Lib.cell?_alloc_some _ HFL.out.fb.a, ?_⟩, World.ownsRow.alloc HFL.out.own _, GrB.alloc _ _, fun k hk => .inl hk⟩
          exact (((Below.refl wr.heap.size wr).alloc (Nat.le_refl _) _).frozen (p := ⟨Bo, 0, none⟩) (by show Bo < _; omega)).trans HFL.out.fb.fo
        generalize hll : T.length = ll at *
        subst hfull
        clear hll
        go_wp2
        (try simp only [Exit.inBlock, Exit.then])
        refine bodyPost_ret (results_none rfl _ _ _) rfl ?_
        exact HP.out
      · have hfb : ((T.length : Int) == 65536) = false := by
          rw [beq_eq_false_iff_ne]
          intro e
          exact hfull (by omega)
        by_cases hk3 : r.k = 3
        · rcases hit.2 with H | H | H | ⟨h0, pl, n5, h2, h3, h4⟩ | H | H
          · exact absurd H.1 (by omega)
          · exact absurd H.1 (by omega)
          · exact absurd H.1 (by omega)
          · clear h4
            obtain ⟨A2, c2, hms2, hm2⟩ := h2.form
            have HP := Lib.hid (hms2 ▸ h2)
            have HSP := Lib.hid h3
            obtain ⟨rk, ak, tx, tr, nd, ps, ms, fn⟩ := r
            dsimp only at h0 hms2 g0 g1 g2 g3 g4 g5 g6 g7 sps sms sfn hps hms hfn
            subst h0 hms2
            unfold maxLen at hm2
            clear h2 h3 hit hk3 sms hms
            generalize hn2 : pl.length = m2 at *
            have HM2 := Lib.hid hn2
            clear hn2
            have HQ := Lib.hid hq
            have HFA : Hid (FlS wr Bo base (.slice A1 T.length c1) T (wr.alloc (.cells #[.int .i64 3, .int .i64 ak, .string tx, .int .i64 tr, .int .i64 nd, ps, .slice A2 m2 c2, fn] 30)) (.slice A1 T.length c1)) := by
              refine ⟨⟨by have := HFL.out.fb.lt; simp; omega, Lib.cell?_alloc_some _ HFL.out.fb.o, Lib.cell?_alloc_some _ HFL.out.fb.a, ?_⟩, World.ownsRow.alloc HFL.out.own _, GrB.alloc _ _, fun k hk => .inl hk⟩
              exact (((Below.refl wr.heap.size wr).alloc (Nat.le_refl _) _).frozen (p := ⟨Bo, 0, none⟩) (by show Bo < _; omega)).trans HFL.out.fb.fo
            have HIN : Hid (FlIn w Bo base u o (f1 ++ f3) (fun (v : Value) n b f => ∃ n', SqR w0 d v n' b f ∧ n = 1 + n') pl 0 (wr.alloc (.cells #[.int .i64 3, .int .i64 ak, .string tx, .int .i64 tr, .int .i64 nd, ps, .slice A2 m2 c2, fn] 30))) := ⟨_, f1, _, _, f3, by rw [← HT.out]; exact HFL.out.trans HFA.out, HSP.out, rfl⟩
            generalize hll : T.length = ll at *
            have HLL := Lib.hid hll
            clear hll hq hfull
            go_wp2
            obtain ⟨wo, rfl⟩ : ∃ wo : World, wo = wr := ⟨_, rfl⟩
            go_loopw [17] (fun i2 w2 => ∃ j : Nat, j ≤ m2 ∧ i2 = .int .i64 j ∧ Hid (FlIn w Bo base u o (f1 ++ f3) (fun (v : Value) n b f => ∃ n', SqR w0 d v n' b f ∧ n = 1 + n') pl j w2)) (fun i2 _ => m2 - (intOf i2).toNat)
            case atStart => exact ⟨0, Nat.zero_le _, rfl, HIN⟩
            case round =>
              obtain ⟨j, hj, rfl, HR2⟩ := hrel
              obtain ⟨u2, p1, n6, b6, p2, hfl2, hs2, hp⟩ := HR2.out
              clear HR2 z1 z2 z3 z4 z5
              have z1 := hfl2.fb.o
              have z2 := hfl2.fb.a
              have z3 := hfl2.fb.fo
              have z4 : Bo < wr.heap.size := by have := hfl2.fb.lt; omega
              have z5 : Bo + 1 < wr.heap.size := hfl2.fb.lt
              unfold flatZ at z2
              by_cases hjl : j < m2
              · have hbel2 := HBL.out hfl2
                obtain ⟨bP, oP, pr, rfl, hbP, hgetP, hdropP, u0⟩ := HP.out.row hbel2 hjl
                rw [hdropP] at hs2
                obtain ⟨n8, b8, p3, n9, b9, p4, ⟨n10, hsq, rfl⟩, hs3, rfl, rfl, rfl⟩ := hs2.head
                have K := Lib.hid (IH.out pr n10 b8 p3 wr Bo base (List.take 65536 (o ++ p1)) u2 hsq hbel2 HBB.out HBASE.out (by have := HBW.out; have := hfl2.g.size; omega) hfl2.self (by rw [List.length_take]; omega))
                have HFL2 := Lib.hid hfl2
                have HS3 := Lib.hid hs3
                have HPP := Lib.hid hp
                clear hfl2 hs2 hs3 hsq hbel2 hgetP hdropP hbP hp
                go_wp2_with fail
                refine K.out.mono ?_
                rintro e w3 ⟨rfl, u3, hfl3⟩
                have HIN2 : Hid (FlIn w Bo base u o (f1 ++ f3) (fun (v : Value) n b f => ∃ n', SqR w0 d v n' b f ∧ n = 1 + n') pl (j + 1) w3) := by
                  refine ⟨u3, p1 ++ p3, n9, b9, p4, ?_, HS3.out, by rw [HPP.out, List.append_assoc]⟩
                  have := HFL2.out.trans hfl3
                  rwa [take_take_app, List.append_assoc] at this
                clear hfl3
                go_wp2
                go_roundw
                case rel => exact ⟨j + 1, by omega, by go_num, HIN2⟩
                case measure => simp [intOf]; omega
              · obtain rfl : j = m2 := by omega
                have HNX : Hid (FlRel w Bo base u o f (ItP w0 (SqR w0 d)) l (k + 1) wr) := by
                  rw [List.drop_eq_nil_of_le (by rw [HM2.out]; exact Nat.le_refl _)] at hs2
                  obtain ⟨rfl, rfl, rfl⟩ := hs2.empty
                  rw [List.append_nil] at hp
                  subst hp
                  exact ⟨u2, f1 ++ f3, _, _, f4, hfl2, HS'.out, by rw [HF.out, List.append_assoc]⟩
                clear hs2 hp hfl2
                go_wp2
                go_roundw
                case rel => exact ⟨k + 1, by omega, by go_num, HNX⟩
                case measure => simp [intOf]; omega
          · exact absurd H.1 (by omega)
          · rcases H.1 with H | H <;> exact absurd hk3 (by omega)
        · have hk3' : (r.k != 3) = true := by simpa using hk3
          have e3 := hit.self hk3
          subst e3
          have HOW : Hid (OwnI (wr.alloc (.cells #[.int .i64 r.k, .int .i64 r.ak, .string r.tx, .int .i64 r.tr, .int .i64 r.nd, r.ps, r.ms, r.fn] 30)) base (.slice A1 T.length c1) T) := World.ownsRow.alloc HFL.out.own _
          have HFA : Hid (FlS wr Bo base (.slice A1 T.length c1) T (wr.alloc (.cells #[.int .i64 r.k, .int .i64 r.ak, .string r.tx, .int .i64 r.tr, .int .i64 r.nd, r.ps, r.ms, r.fn] 30)) (.slice A1 T.length c1)) := by
            refine ⟨⟨by have := HFL.out.fb.lt; simp; omega, Lib.cell?_alloc_some _ HFL.out.fb.o, Lib.cell?_alloc_some _ HFL.out.fb.a, ?_⟩, HOW.out, GrB.alloc _ _, fun k hk => .inl hk⟩
            exact (((Below.refl wr.heap.size wr).alloc (Nat.le_refl _) _).frozen (p := ⟨Bo, 0, none⟩) (by show Bo < _; omega)).trans HFL.out.fb.fo
          have HTK : Hid (T ++ [r] = List.take 65536 (o ++ (f1 ++ [r]))) := by
            have h1 : (o ++ f1).length < 65536 := by
              rw [HT.out, List.length_take] at hfull hq; omega
            rw [HT.out]
            rw [List.take_of_length_le (show (o ++ f1).length ≤ 65536 by omega), ← List.append_assoc, List.take_of_length_le (show (o ++ f1 ++ [r]).length ≤ 65536 by rw [List.length_append]; show (o ++ f1).length + 1 ≤ 65536; omega)]
            exact rfl
          have HQ := Lib.hid hq
          generalize hll : T.length = ll at *
          have HLL := Lib.hid hll
          clear hll hq hfull hit hk3
          go_wp2_with (at_builtin; refine appI base rfl (.tmp 33) (.tmp 35) rfl (.slice A1 ll c1) T rfl r HOK.out (wr.heap.size + 1) (by simp) rfl HOW.out ?c1 ?c2 ?_)
          case c1 => simp; omega
          case c2 => have := HLL.out; have := HQ.out; omega
          intro g cap w1 ho' hg' hblk hlt1
          obtain ⟨⟨y0, y1, y2⟩, hfl'⟩ := fl_push HBASE.out HFA.out.fb HFA.out.own ho' hg' (fun k hk => by injection hk with hk; subst hk; simpa using hblk)
          have HNX : Hid (FlRel w Bo base u o f (ItP w0 (SqR w0 d)) l (k + 1) (w1.setCell ⟨Bo, 0, none⟩ (.slice (some ⟨g, 0, none⟩) (T.length + 1) cap))) :=
            ⟨_, f1 ++ [r], n4, b4, f4, by rw [← HTK.out]; exact HFL.out.trans (HFA.out.trans hfl'), HS'.out, by rw [HF.out, List.append_assoc]⟩
          clear hfl' ho' hg' hblk
          go_wp2
          go_roundw
          case rel => exact ⟨k + 1, by omega, by go_num, HNX⟩
          case measure => simp [intOf]; omega
    · obtain rfl : k = m := by omega
      have HP : Hid (FlPost w Bo base u ((o ++ f).take 65536) (.returned (.tuple #[])) wr) := by
        rw [List.drop_eq_nil_of_le (by rw [HM.out]; exact Nat.le_refl _)] at hs
        obtain ⟨rfl, rfl, rfl⟩ := hs.empty
        rw [List.append_nil] at hf
        subst hf
        exact ⟨rfl, u1, hfl⟩
      clear hs hf hfl
      go_wp2
      go_end0
      exact HP.out
theorem fl_all (w0 : World) : ∀ d, FlOK w0 d
  | 0 => fun v n b f w Bo base o u hs => hs.elim
  | d + 1 => fl_step w0 d (fl_all w0 d)
end Go.Proofs.YtahidclhplmkiaaGreatDoor
