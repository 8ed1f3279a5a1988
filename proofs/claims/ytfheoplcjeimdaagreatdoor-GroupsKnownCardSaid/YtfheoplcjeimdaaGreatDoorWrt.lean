/- The test of chisellaw30.works: its operations, one by one. -/
import Derived.Test.YtfheoplcjeimdaaGreatDoorWrk
namespace Go.Proofs.YtfheoplcjeimdaaGreatDoor
open Go.RowKit
set_option linter.unusedVariables false
set_option linter.unusedSimpArgs false

/-- What a slot of the test holds. -/
inductive WK where
  | ii (gs : List (List Int)) | il (l : List Int) | t | at_ | pt (s : ByteArray) | ag (s : ByteArray) | n2 | bl (l : List Bool)
def lAB : List Atm := [(1, sa_), (1, sb_)]
def WK.holds : WK → Value → World → Prop
  | .ii gs => fun v w => RdII w v gs
  | .il l => fun v w => ∃ A c, v = .slice A l.length c ∧ RdInts w A l.length l
  | .t => fun v _ => v = .bool true
  | .at_ => fun v w => ∃ A c, v = .slice A 2 c ∧ RdAtoms w A 2 lAB
  | .pt s => fun v w => ∃ b o, v = .pointer (some ⟨b, o, none⟩) ∧ b < w.heap.size ∧ w.cell? ⟨b, o, none⟩ = some (.int .i64 1) ∧ w.cell? ⟨b, o + 1, none⟩ = some (.string s)
  | .ag s => fun v _ => v = .agg #[.int .i64 1, .string s]
  | .n2 => fun v _ => v = .int .i64 2
  | .bl l => fun v w => ∃ A c, v = .slice A l.length c ∧ RdBools w A l.length l
theorem WK.mono : ∀ (k : WK) (v : Value) (w w' : World), Below w.heap.size w w' → k.holds v w → k.holds v w'
  | .ii gs, v, w, w', hb, h => RdII.below h hb
  | .il l, v, w, w', hb, ⟨A, c, e, h⟩ => ⟨A, c, e, h.below hb⟩
  | .t, v, w, w', hb, h => h
  | .at_, v, w, w', hb, ⟨A, c, e, h⟩ => ⟨A, c, e, h.below hb⟩
  | .pt s, v, w, w', hb, ⟨b, o, e, hl, h1, h2⟩ => ⟨b, o, e, by have := hb.size; omega, (hb.cell (p := ⟨b, o, none⟩) hl).trans h1, (hb.cell (p := ⟨b, o + 1, none⟩) hl).trans h2⟩
  | .ag s, v, w, w', hb, h => h
  | .n2, v, w, w', hb, h => h
  | .bl l, v, w, w', hb, ⟨A, c, e, h⟩ => ⟨A, c, e, h.below hb⟩

def g1 : List (List Int) := [[0, 1], [1, 3]]
def g2 : List (List Int) := [[0, 1], [2], [3], [4, 5]]
def g3 : List (List Int) := [[0, 1], [2], [3, 4]]
def g4 : List (List Int) := [[0, 1, 2], [3], [4]]
def mks : List Bool := [false, false, true, true, false]
def wkT : List WK := [.ii g1, .il [0, 1], .il [1, 3], .ii g1, .t, .t, .at_, .n2, .t, .t, .t, .at_, .pt sa_, .ag sa_, .ag sa_, .t, .t, .t, .at_, .pt sb_, .ag sb_, .ag sb_, .t, .t, .t,
  .ii g2, .il [0, 1], .il [2], .il [3], .il [4, 5], .ii g2, .t, .t, .t, .bl mks, .ii g3, .il [0, 1], .il [2], .il [3, 4], .ii g3, .t, .t, .t, .bl mks, .ii g4, .il [0, 1, 2], .il [3], .il [4], .ii g4, .t, .t, .t]
def wkK (i : Nat) : WK := wkT.getD i .t
def wkD (i : Nat) : Nat := if i = 51 then 0 else 32 + i
def wkΦ (i : Nat) (v : Value) (w : World) : Prop := (wkK i).holds v w

theorem rdInts_lit {W : World} {b : Nat} {cs : Array Value} {t : TypeId} {fr : Nat × Nat} (l : List Int) (h : W.heap[b]? = some (.cells cs t fr)) (hc : cs.toList = ints l) : RdInts W (some ⟨b, 0, none⟩) l.length l := by
  have hlt := (Array.getElem?_eq_some_iff.1 h).1
  refine ⟨rfl, fun _ => ⟨b, 0, rfl, hlt, fun j hj => ?_⟩⟩
  rw [cell_of_row W b _ cs t fr h, Nat.zero_add]
  have : cs[j]? = (ints l)[j]? := by rw [← hc]; simp
  rw [this]; simp [ints, List.getD_eq_getElem?_getD, List.getElem?_eq_getElem hj]

section
variable {v1 v2 : Value} {Au : Option Addr} {cu bm : Nat} {w0 : World} {ops : Array Oper} {Q : Exit → Act → World → Prop}
def wkP (v1 v2 : Value) (Au : Option Addr) (cu bm : Nat) : List (Nat × Value) := [(1, v1), (2, .slice Au 2 cu), (3, v2), (4, .slice (some ⟨bm, 0, none⟩) 5 5)]
abbrev WOK (v1 v2 : Value) (Au : Option Addr) (cu bm : Nat) (w0 : World) (ops : Array Oper) (Q : Exit → Act → World → Prop) (i : Nat) (o : Oper) : Prop := StepOK Tryz.prog ops Q 52 wkD wkΦ (wkP v1 v2 Au cu bm) 83 w0 i o

theorem st_move {i src : Nat} {o : Oper} (ho : o.op = .move (.tmp (wkD src)) ∨ o.op = .assign (.tmp (wkD src))) (hi : src < 52) (hs : wkK i = wkK src) (hd : (o.after.any fun e => e.on == src && Region.binds .any e) = true)
    (hg : o.guard = none ∨ ∃ j, o.guard = some (j, true) ∧ j < 52 ∧ wkK j = .t ∧ (ops[j]?).bind (·.dst) = some (wkD j) ∧ (o.after.any fun e => e.on == j && Region.binds .any e) = true) : WOK v1 v2 Au cu bm w0 ops Q i o := by
  intro l a w h hl K hK
  refine ⟨?_, ow_value (run_move ho) (hK _ _ (Below.refl _ _) (by
    have := h.done src hi (deps_of hl src hd)
    unfold wkΦ at this ⊢; rw [hs]; exact this))⟩
  rcases hg with hg | ⟨j, hg, hj, hk, hb, he⟩
  · exact wanted_none hg
  · refine wanted_true hg hb ?_
    have := h.done j hj (deps_of hl j he)
    unfold wkΦ at this; rw [hk] at this; exact this

def GOK (ops : Array Oper) (o : Oper) : Prop := o.guard = none ∨ ∃ j, o.guard = some (j, true) ∧ j < 52 ∧ wkK j = .t ∧ (ops[j]?).bind (·.dst) = some (wkD j) ∧ (o.after.any fun e => e.on == j && Region.binds .any e) = true
abbrev WRI (v1 v2 : Value) (Au : Option Addr) (cu bm : Nat) (w0 : World) := RegI 52 wkD wkΦ (wkP v1 v2 Au cu bm) 83 w0
theorem gok {o : Oper} {l : Array Bool} {a : Act} {w : World} (h : WRI v1 v2 Au cu bm w0 l a w) (hl : ∀ e, e ∈ o.after → Region.binds .any e = true → l.getD e.on false = true) (hg : GOK ops o) : Region.wanted o (yielded ops a.tmps) = true := by
  rcases hg with hg | ⟨j, hg, hj, hk, hb, he⟩
  · exact wanted_none hg
  · refine wanted_true hg hb ?_
    have := h.done j hj (deps_of hl j he)
    unfold wkΦ at this; rw [hk] at this; exact this
theorem gets {o : Oper} {l : Array Bool} {a : Act} {w : World} (h : WRI v1 v2 Au cu bm w0 l a w) (hl : ∀ e, e ∈ o.after → Region.binds .any e = true → l.getD e.on false = true) (src : Nat) (k : WK) (hi : src < 52) (hk : wkK src = k) (hd : (o.after.any fun e => e.on == src && Region.binds .any e) = true) : k.holds (a.tmps.getD (wkD src) undef) w := by
  have := h.done src hi (deps_of hl src hd)
  unfold wkΦ at this; rw [hk] at this; exact this
theorem st_keep {i j : Nat} {o : Oper} {x : Value} (ho : o.op = .move (.tmp j)) (hm : (j, x) ∈ wkP v1 v2 Au cu bm) (hx : (wkK i).holds x w0) (hg : GOK ops o) : WOK v1 v2 Au cu bm w0 ops Q i o := by
  intro l a w h hl K hK
  refine ⟨gok h hl hg, ow_value (run_move (.inl ho)) (hK _ _ (Below.refl _ _) ?_)⟩
  have : a.tmps.getD j undef = x := h.kept _ hm
  show (wkK i).holds (a.tmps.getD j undef) w
  rw [this]; exact WK.mono _ _ _ _ h.below hx
theorem st_pick {i c y : Nat} {o : Oper} {z : Operand} (ho : o.op = .pick (.tmp (wkD c)) (.tmp (wkD y)) z) (hc : c < 52) (hy : y < 52) (kc : wkK c = .t) (ky : wkK y = .t) (ki : wkK i = .t)
    (dc : (o.after.any fun e => e.on == c && Region.binds .any e) = true) (dy : (o.after.any fun e => e.on == y && Region.binds .any e) = true) (hg : GOK ops o) : WOK v1 v2 Au cu bm w0 ops Q i o := by
  intro l a w h hl K hK
  refine ⟨gok h hl hg, ow_value (run_pick ho (gets h hl c .t hc kc dc)) (hK _ _ (Below.refl _ _) ?_)⟩
  unfold wkΦ; rw [ki]; exact gets h hl y .t hy ky dy
theorem st_build {i : Nat} {o : Oper} {cs : Array Value} {xs : List Int} (hr : ∀ (a : Act) (w : World), (execOp a.eval o).run Tryz.prog w = .ok (.value (.slice (some ⟨w.heap.size, 0, none⟩) xs.length xs.length)) (w.alloc (.cells cs 3))) (hc : cs.toList = ints xs) (hk : wkK i = .il xs) (hg : GOK ops o) : WOK v1 v2 Au cu bm w0 ops Q i o := by
  intro l a w h hl K hK
  refine ⟨gok h hl hg, ow_value (hr a w) (hK _ _ ((Below.refl _ _).alloc (Nat.le_refl _) _) ?_)⟩
  unfold wkΦ; rw [hk]
  exact ⟨_, _, rfl, rdInts_lit xs (heap_new rfl) hc⟩
theorem rdII_lit {W : World} {b : Nat} {cs : Array Value} {t : TypeId} {fr : Nat × Nat} (gs : List (List Int)) (h : W.heap[b]? = some (.cells cs t fr)) (hin : ∀ j, j < gs.length → ∃ Aj cj, cs[j]? = some (.slice Aj (gs.getD j []).length cj) ∧ RdInts W Aj (gs.getD j []).length (gs.getD j [])) : RdII W (.slice (some ⟨b, 0, none⟩) gs.length gs.length) gs := by
  have hlt := (Array.getElem?_eq_some_iff.1 h).1
  refine ⟨_, _, rfl, fun _ => ⟨b, 0, rfl, hlt, fun j hj => ?_⟩⟩
  obtain ⟨Aj, cj, h1, h2⟩ := hin j hj
  exact ⟨Aj, cj, by rw [cell_of_row W b _ cs t fr h, Nat.zero_add]; exact h1, h2⟩
end
end Go.Proofs.YtfheoplcjeimdaaGreatDoor
