/- Regions of the examples of package groups whose order is not known: what each kind of operation leaves. -/
import Derived.Test.YtfheoplcjeimdaaGreatDoorWks
import Derived.Test.YtfheoplcjeimdaaGreatDoorKb
namespace Go.Proofs.YtfheoplcjeimdaaGreatDoor
open Go.RowKit
set_option linter.unusedVariables false
set_option linter.unusedSimpArgs false

/-- What a slot holds. -/
inductive KK where
  | any | is_ (v : Value) | ii (gs : List (List Int)) | il (l : List Int) | bl (l : List Bool) | as_ (l : List Atm) | aa (ls : List (List Atm)) | box (x : Atm) | pr (gs : List (List Int)) (l : List Atm)
def agV (x : Atm) : Value := .agg #[.int .i64 x.1, .string x.2]
def KK.holds : KK → Value → World → Prop
  | .any => fun _ _ => True
  | .is_ u => fun v _ => v = u
  | .ii gs => fun v w => RdII w v gs
  | .il l => fun v w => ∃ A c, v = .slice A l.length c ∧ RdInts w A l.length l
  | .bl l => fun v w => ∃ A c, v = .slice A l.length c ∧ RdBools w A l.length l
  | .as_ l => fun v w => ∃ A c, v = .slice A l.length c ∧ RdAtoms w A l.length l
  | .aa ls => fun v w => ∃ A c, v = .slice A ls.length c ∧ RdAA w A ls.length ls
  | .box x => fun v w => ∃ b o, v = .pointer (some ⟨b, o, none⟩) ∧ b < w.heap.size ∧ w.cell? ⟨b, o, none⟩ = some (.int .i64 x.1) ∧ w.cell? ⟨b, o + 1, none⟩ = some (.string x.2)
  | .pr gs l => fun v w => ∃ v1 u1, v = .tuple #[v1, u1] ∧ RdII w v1 gs ∧ ∃ A c, u1 = .slice A l.length c ∧ RdAtoms w A l.length l
theorem KK.mono : ∀ (k : KK) (v : Value) (w w' : World), Below w.heap.size w w' → k.holds v w → k.holds v w'
  | .any, v, w, w', hb, h => trivial
  | .is_ u, v, w, w', hb, h => h
  | .ii gs, v, w, w', hb, h => RdII.below h hb
  | .il l, v, w, w', hb, ⟨A, c, e, h⟩ => ⟨A, c, e, h.below hb⟩
  | .bl l, v, w, w', hb, ⟨A, c, e, h⟩ => ⟨A, c, e, h.below hb⟩
  | .as_ l, v, w, w', hb, ⟨A, c, e, h⟩ => ⟨A, c, e, h.below hb⟩
  | .aa l, v, w, w', hb, ⟨A, c, e, h⟩ => ⟨A, c, e, h.below hb⟩
  | .box s, v, w, w', hb, ⟨b, o, e, hl, h1, h2⟩ => ⟨b, o, e, by have := hb.size; omega, (hb.cell (p := ⟨b, o, none⟩) hl).trans h1, (hb.cell (p := ⟨b, o + 1, none⟩) hl).trans h2⟩
  | .pr gs l, v, w, w', hb, ⟨v1, u1, e, h1, A, c, e2, h2⟩ => ⟨v1, u1, e, RdII.below h1 hb, A, c, e2, h2.below hb⟩

abbrev tt_ : KK := .is_ (.bool true)
structure Tab where
  n : Nat
  sz : Nat
  D : Nat → Nat
  T : Nat → KK
  kk : Nat → KK
  ks : List Nat

section
variable (τ : Tab) (x : Nat → Value) (w0 : World) (ops : Array Oper) (Q : Exit → Act → World → Prop)
abbrev KP : List (Nat × Value) := τ.ks.map fun j => (j, x j)
abbrev KI : Array Bool → Act → World → Prop := RegI τ.n τ.D (fun i v w => (τ.T i).holds v w) (KP τ x) τ.sz w0
abbrev KOK (i : Nat) (o : Oper) : Prop := StepOK Tryz.prog ops Q τ.n τ.D (fun i v w => (τ.T i).holds v w) (KP τ x) τ.sz w0 i o
def Src (o : Oper) (V : Act → Value) (k : KK) : Prop := ∀ l a w, KI τ x w0 l a w → (∀ e, e ∈ o.after → Region.binds .any e = true → l.getD e.on false = true) → k.holds (V a) w
def KGOK (o : Oper) : Prop := o.guard = none ∨ ∃ j, o.guard = some (j, true) ∧ j < τ.n ∧ τ.T j = tt_ ∧ (ops[j]?).bind (·.dst) = some (τ.D j) ∧ (o.after.any fun e => e.on == j && Region.binds .any e) = true
end
section
variable {τ : Tab} {x : Nat → Value} {w0 : World} {ops : Array Oper} {Q : Exit → Act → World → Prop} {i : Nat} {o : Oper}
theorem src_op {k : KK} (j s : Nat) (hj : j < τ.n) (hk : τ.T j = k) (hs : τ.D j = s) (hd : (o.after.any fun e => e.on == j && Region.binds .any e) = true) : Src τ x w0 o (fun a => a.tmps.getD s undef) k := by
  intro l a w h hl
  have := h.done j hj (deps_of hl j hd)
  rw [hk, hs] at this; exact this
theorem src_kept {k : KK} (j : Nat) (H : ∀ j, (τ.kk j).holds (x j) w0) (hj : j ∈ τ.ks) (hk : τ.kk j = k) : Src τ x w0 o (fun a => a.tmps.getD j undef) k := by
  intro l a w h hl
  have e : a.tmps.getD j undef = x j := h.kept (j, x j) (List.mem_map.2 ⟨j, hj, rfl⟩)
  have := KK.mono _ _ _ _ h.below (H j)
  rw [hk] at this
  show k.holds (a.tmps.getD j undef) w
  rw [e]; exact this
theorem src_const {k : KK} (v : Value) (h : ∀ w, k.holds v w) : Src τ x w0 o (fun _ => v) k := fun _ _ w _ _ => h w
theorem kgok {l : Array Bool} {a : Act} {w : World} (h : KI τ x w0 l a w) (hl : ∀ e, e ∈ o.after → Region.binds .any e = true → l.getD e.on false = true) (hg : KGOK τ ops o) : Region.wanted o (yielded ops a.tmps) = true := by
  rcases hg with hg | ⟨j, hg, hj, hk, hb, he⟩
  · exact wanted_none hg
  · refine wanted_true hg hb ?_
    have := h.done j hj (deps_of hl j he)
    simp only [hk] at this; exact this

theorem k_move {s : Nat} {k : KK} (ho : o.op = .move (.tmp s) ∨ o.op = .assign (.tmp s)) (S : Src τ x w0 o (fun a => a.tmps.getD s undef) k) (ki : τ.T i = k) (hg : KGOK τ ops o) : KOK τ x w0 ops Q i o := by
  intro l a w h hl K hK
  exact ⟨kgok h hl hg, ow_value (run_move ho) (hK _ _ (Below.refl _ _) (by simp only [ki]; exact S l a w h hl))⟩
theorem k_pick {c y : Nat} {z : Operand} (ho : o.op = .pick (.tmp c) (.tmp y) z) (C : Src τ x w0 o (fun a => a.tmps.getD c undef) tt_) (Y : Src τ x w0 o (fun a => a.tmps.getD y undef) tt_) (ki : τ.T i = tt_) (hg : KGOK τ ops o) : KOK τ x w0 ops Q i o := by
  intro l a w h hl K hK
  exact ⟨kgok h hl hg, ow_value (run_pick ho (C l a w h hl)) (hK _ _ (Below.refl _ _) (by simp only [ki]; exact Y l a w h hl))⟩
theorem k_load {s : Nat} {y : Atm} (ho : o.op = .load 38 (.tmp s)) (S : Src τ x w0 o (fun a => a.tmps.getD s undef) (.box y)) (ki : τ.T i = .is_ (agV y)) (hg : KGOK τ ops o) : KOK τ x w0 ops Q i o := by
  intro l a w h hl K hK
  obtain ⟨b, off, e1, hlt, h1, h2⟩ := S l a w h hl
  refine ⟨kgok h hl hg, ow_value (v := agV y) (w' := w) ?_ (hK _ _ (Below.refl _ _) (by simp only [ki]; rfl))⟩
  simp only [execOp, ho, Act.eval, e1]
  go_simp
  rfl
theorem k_same {V U : Act → Value} {gs : List (List Int)} (hr : ∀ (a : Act) (w : World), (execOp a.eval o).run Tryz.prog w = .ok (.enter 16 #[V a, U a]) w) (X : Src τ x w0 o V (.ii gs)) (Y : Src τ x w0 o U (.ii gs)) (ki : τ.T i = tt_)
    (hn : gs.length ≤ 1000) (hna : ∀ x, x ∈ gs → x.length ≤ 1000) (hg : KGOK τ ops o) : KOK τ x w0 ops Q i o := by
  intro l a w h hl K hK
  refine ⟨kgok h hl hg, ow_call (hr a w) ((same_any gs gs _ _ w (X l a w h hl) (Y l a w h hl) (by omega) (fun j => ?_)).mono ?_)⟩
  · by_cases hj : j < gs.length
    · rw [List.getD_eq_getElem?_getD, List.getElem?_eq_getElem hj]; have := hna _ (List.getElem_mem hj); simp only [Option.getD_some]; omega
    · rw [List.getD_eq_getElem?_getD, List.getElem?_eq_none (by omega)]; simp
  · rintro e w' ⟨rfl, hb⟩
    exact ⟨_, rfl, hK _ _ hb (by simp only [ki]; simp [KK.holds])⟩
theorem k_word {s : ByteArray} (hr : ∀ (a : Act) (w : World), (execOp a.eval o).run Tryz.prog w = .ok (.enter 26 #[.string s]) w) (ki : τ.T i = .is_ (agV (1, s))) (hg : KGOK τ ops o) : KOK τ x w0 ops Q i o := by
  intro l a w h hl K hK
  refine ⟨kgok h hl hg, ow_call (hr a w) ((word_any s w).mono ?_)⟩
  rintro e w' ⟨rfl, rfl⟩
  exact ⟨_, rfl, hK _ _ ((Below.refl _ _).alloc (Nat.le_refl _) _) (by simp only [ki]; rfl)⟩
theorem k_works (hr : ∀ (a : Act) (w : World), (execOp a.eval o).run Tryz.prog w = .ok (.enter 12 #[]) w) (ki : τ.T i = tt_) (hg : KGOK τ ops o) : KOK τ x w0 ops Q i o := by
  intro l a w h hl K hK
  refine ⟨kgok h hl hg, ow_call (hr a w) ((works_any w).mono ?_)⟩
  rintro e w' ⟨rfl, hb⟩
  exact ⟨_, rfl, hK _ _ hb (by simp only [ki]; rfl)⟩
theorem k_by {V : Act → Value} {ls : List (List Atm)} {gs : List (List Int)} {L : List Atm} {S : Int → ByteArray → Prop} {va : Int → ByteArray → Bool} {sa : Int → ByteArray → Int → ByteArray → Bool} (C : AtomC S (fun _ => True) va sa) (hS : ∀ l, l ∈ ls → ∀ x, x ∈ l → S x.1 x.2) (hn : ls.length ≤ 1000) (hlen : ∀ l, l ∈ ls → l.length ≤ 1000) (hF : byF va sa ls ls.length = (gs, L)) (hL : L.length ≤ 1000)
    (hr : ∀ (a : Act) (w : World), (execOp a.eval o).run Tryz.prog w = .ok (.enter 13 #[V a]) w) (X : Src τ x w0 o V (.aa ls)) (ki : τ.T i = .pr gs L) (hg : KGOK τ ops o) : KOK τ x w0 ops Q i o := by
  intro l a w h hl K hK
  obtain ⟨A, c, e1, e2⟩ := X l a w h hl
  refine ⟨kgok h hl hg, ow_call (hr a w) ?_⟩
  rw [e1]
  refine (by_any C ls A _ c w hS trivial hn hlen e2).mono ?_
  rintro e w' ⟨v, u, rfl, hM, hP, hb⟩
  rw [hF] at hM
  have hR := ReadsA_of hM (by show L.length ≤ _; omega)
  exact ⟨_, rfl, hK _ _ hb (by simp only [ki]; exact ⟨v, u, rfl, hR.1, hR.2⟩)⟩
theorem k_adj {V : Act → Value} {ls : List (List Atm)} {gs : List (List Int)} {S : Int → ByteArray → Prop} {va : Int → ByteArray → Bool} {sa : Int → ByteArray → Int → ByteArray → Bool} (C : AtomC S (fun _ => True) va sa) (hS : ∀ l, l ∈ ls → ∀ x, x ∈ l → S x.1 x.2) (hn : ls.length ≤ 1000) (hlen : ∀ l, l ∈ ls → l.length ≤ 1000) (hF : grp (fun j => !eqAA va sa (ls.getD (j - 1) []) (ls.getD j [])) ls.length = gs)
    (hr : ∀ (a : Act) (w : World), (execOp a.eval o).run Tryz.prog w = .ok (.enter 17 #[V a]) w) (X : Src τ x w0 o V (.aa ls)) (ki : τ.T i = .ii gs) (hg : KGOK τ ops o) : KOK τ x w0 ops Q i o := by
  intro l a w h hl K hK
  obtain ⟨A, c, e1, e2⟩ := X l a w h hl
  refine ⟨kgok h hl hg, ow_call (hr a w) ?_⟩
  rw [e1]
  refine (adjacent_any C ls A _ c w hS trivial (by omega) (fun l hl => Nat.le_trans (hlen l hl) (by omega)) e2).mono ?_
  rintro e w' ⟨v, rfl, hM, hb⟩
  rw [hF] at hM
  exact ⟨_, rfl, hK _ _ hb (by simp only [ki]; exact hM)⟩
theorem k_start {V : Act → Value} {ms : List Bool} {gs : List (List Int)} (hn : ms.length ≤ 1000) (hF : grp (fun j => ms.getD j false) ms.length = gs)
    (hr : ∀ (a : Act) (w : World), (execOp a.eval o).run Tryz.prog w = .ok (.enter 19 #[V a]) w) (X : Src τ x w0 o V (.bl ms)) (ki : τ.T i = .ii gs) (hg : KGOK τ ops o) : KOK τ x w0 ops Q i o := by
  intro l a w h hl K hK
  obtain ⟨A, c, e1, e2⟩ := X l a w h hl
  refine ⟨kgok h hl hg, ow_call (hr a w) ?_⟩
  rw [e1]
  refine (starting_any ms A _ c w e2 (by omega)).mono ?_
  rintro e w' ⟨v, rfl, hM, hb⟩
  rw [hF] at hM
  exact ⟨_, rfl, hK _ _ hb (by simp only [ki]; exact hM)⟩
theorem k_end {V : Act → Value} {ms : List Bool} {gs : List (List Int)} (hn : ms.length ≤ 1000) (hF : grp (fun j => decide (0 < j) && ms.getD (j - 1) false) ms.length = gs)
    (hr : ∀ (a : Act) (w : World), (execOp a.eval o).run Tryz.prog w = .ok (.enter 21 #[V a]) w) (X : Src τ x w0 o V (.bl ms)) (ki : τ.T i = .ii gs) (hg : KGOK τ ops o) : KOK τ x w0 ops Q i o := by
  intro l a w h hl K hK
  obtain ⟨A, c, e1, e2⟩ := X l a w h hl
  refine ⟨kgok h hl hg, ow_call (hr a w) ?_⟩
  rw [e1]
  refine (ending_any ms A _ c w e2 (by omega)).mono ?_
  rintro e w' ⟨v, rfl, hM, hb⟩
  rw [hF] at hM
  exact ⟨_, rfl, hK _ _ hb (by simp only [ki]; exact hM)⟩
theorem k_ints {cs : Array Value} {xs : List Int} {n : Nat} (hr : ∀ (a : Act) (w : World), (execOp a.eval o).run Tryz.prog w = .ok (.value (.slice (some ⟨w.heap.size, 0, none⟩) n n)) (w.alloc (.cells cs 3))) (hc : cs.toList = ints xs) (hn : n = xs.length) (ki : τ.T i = .il xs) (hg : KGOK τ ops o) : KOK τ x w0 ops Q i o := by
  intro l a w h hl K hK
  subst hn
  refine ⟨kgok h hl hg, ow_value (hr a w) (hK _ _ ((Below.refl _ _).alloc (Nat.le_refl _) _) ?_)⟩
  simp only [ki]
  exact ⟨_, _, rfl, rdInts_lit xs (heap_new rfl) hc⟩
theorem rdBools_lit {W : World} {b : Nat} {cs : Array Value} {t : TypeId} {fr : Nat × Nat} (l : List Bool) (h : W.heap[b]? = some (.cells cs t fr)) (hc : cs.toList = l.map .bool) : RdBools W (some ⟨b, 0, none⟩) l.length l := by
  have hlt := (Array.getElem?_eq_some_iff.1 h).1
  refine ⟨rfl, fun _ => ⟨b, 0, rfl, hlt, fun j hj => ?_⟩⟩
  rw [cell_of_row W b _ cs t fr h, Nat.zero_add]
  have : cs[j]? = (l.map Value.bool)[j]? := by rw [← hc]; simp
  rw [this]; simp [List.getD_eq_getElem?_getD, List.getElem?_eq_getElem hj]
theorem k_bools {cs : Array Value} {xs : List Bool} {n : Nat} (hr : ∀ (a : Act) (w : World), (execOp a.eval o).run Tryz.prog w = .ok (.value (.slice (some ⟨w.heap.size, 0, none⟩) n n)) (w.alloc (.cells cs 4))) (hc : cs.toList = xs.map .bool) (hn : n = xs.length) (ki : τ.T i = .bl xs) (hg : KGOK τ ops o) : KOK τ x w0 ops Q i o := by
  intro l a w h hl K hK
  subst hn
  refine ⟨kgok h hl hg, ow_value (hr a w) (hK _ _ ((Below.refl _ _).alloc (Nat.le_refl _) _) ?_)⟩
  simp only [ki]
  exact ⟨_, _, rfl, rdBools_lit xs (heap_new rfl) hc⟩
theorem k_at0 {cs : Array Value} (hr : ∀ (a : Act) (w : World), (execOp a.eval o).run Tryz.prog w = .ok (.value (.slice (some ⟨w.heap.size, 0, none⟩) 0 0)) (w.alloc (.cells cs 38))) (hc : cs.toList = flatA []) (ki : τ.T i = .as_ []) (hg : KGOK τ ops o) : KOK τ x w0 ops Q i o := by
  intro l a w h hl K hK
  refine ⟨kgok h hl hg, ow_value (hr a w) (hK _ _ ((Below.refl _ _).alloc (Nat.le_refl _) _) ?_)⟩
  simp only [ki]
  exact ⟨_, _, rfl, rdAtoms_lit [] 0 rfl (heap_new rfl) hc (by decide)⟩
theorem k_at1 {cs : Array Value} {s : Nat} {y : Atm} (hr : ∀ (a : Act) (w : World), (execOp a.eval o).run Tryz.prog w = (execOp (rhoL [(s, a.tmps.getD s undef)]) o).run Tryz.prog w) (hv : ∀ w, (execOp (rhoL [(s, agV y)]) o).run Tryz.prog w = .ok (.value (.slice (some ⟨w.heap.size, 0, none⟩) 1 1)) (w.alloc (.cells cs 38))) (hc : cs.toList = flatA [y]) (X : Src τ x w0 o (fun a => a.tmps.getD s undef) (.is_ (agV y))) (ki : τ.T i = .as_ [y]) (hg : KGOK τ ops o) : KOK τ x w0 ops Q i o := by
  intro l a w h hl K hK
  have e1 : a.tmps.getD s undef = agV y := X l a w h hl
  refine ⟨kgok h hl hg, ow_value (w' := w.alloc (.cells cs 38)) (by rw [hr, e1, hv]) (hK _ _ ((Below.refl _ _).alloc (Nat.le_refl _) _) ?_)⟩
  simp only [ki]
  exact ⟨_, _, rfl, rdAtoms_lit [y] 1 rfl (heap_new rfl) hc (by simp)⟩
theorem k_at2 {cs : Array Value} {s t : Nat} {y z : Atm} (hr : ∀ (a : Act) (w : World), (execOp a.eval o).run Tryz.prog w = (execOp (rhoL [(s, a.tmps.getD s undef), (t, a.tmps.getD t undef)]) o).run Tryz.prog w) (hv : ∀ w, (execOp (rhoL [(s, agV y), (t, agV z)]) o).run Tryz.prog w = .ok (.value (.slice (some ⟨w.heap.size, 0, none⟩) 2 2)) (w.alloc (.cells cs 38))) (hc : cs.toList = flatA [y, z]) (X : Src τ x w0 o (fun a => a.tmps.getD s undef) (.is_ (agV y))) (Y : Src τ x w0 o (fun a => a.tmps.getD t undef) (.is_ (agV z))) (ki : τ.T i = .as_ [y, z]) (hg : KGOK τ ops o) : KOK τ x w0 ops Q i o := by
  intro l a w h hl K hK
  have e1 : a.tmps.getD s undef = agV y := X l a w h hl
  have e2 : a.tmps.getD t undef = agV z := Y l a w h hl
  refine ⟨kgok h hl hg, ow_value (w' := w.alloc (.cells cs 38)) (by rw [hr, e1, e2, hv]) (hK _ _ ((Below.refl _ _).alloc (Nat.le_refl _) _) ?_)⟩
  simp only [ki]
  exact ⟨_, _, rfl, rdAtoms_lit [y, z] 2 rfl (heap_new rfl) hc (by simp)⟩
theorem k_fn1 {s : Nat} {u r : Value} (hr : ∀ (a : Act) (w : World), (execOp a.eval o).run Tryz.prog w = (execOp (rhoL [(s, a.tmps.getD s undef)]) o).run Tryz.prog w) (hv : ∀ w, (execOp (rhoL [(s, u)]) o).run Tryz.prog w = .ok (.value r) w) (X : Src τ x w0 o (fun a => a.tmps.getD s undef) (.is_ u)) (ki : τ.T i = .is_ r) (hg : KGOK τ ops o) : KOK τ x w0 ops Q i o := by
  intro l a w h hl K hK
  have e1 : a.tmps.getD s undef = u := X l a w h hl
  exact ⟨kgok h hl hg, ow_value (v := r) (w' := w) (by rw [hr, e1, hv]) (hK _ _ (Below.refl _ _) (by simp only [ki]; rfl))⟩
theorem k_fn2 {s t : Nat} {u u' r : Value} (hr : ∀ (a : Act) (w : World), (execOp a.eval o).run Tryz.prog w = (execOp (rhoL [(s, a.tmps.getD s undef), (t, a.tmps.getD t undef)]) o).run Tryz.prog w) (hv : ∀ w, (execOp (rhoL [(s, u), (t, u')]) o).run Tryz.prog w = .ok (.value r) w) (X : Src τ x w0 o (fun a => a.tmps.getD s undef) (.is_ u)) (Y : Src τ x w0 o (fun a => a.tmps.getD t undef) (.is_ u')) (ki : τ.T i = .is_ r) (hg : KGOK τ ops o) : KOK τ x w0 ops Q i o := by
  intro l a w h hl K hK
  have e1 : a.tmps.getD s undef = u := X l a w h hl
  have e2 : a.tmps.getD t undef = u' := Y l a w h hl
  exact ⟨kgok h hl hg, ow_value (v := r) (w' := w) (by rw [hr, e1, e2, hv]) (hK _ _ (Below.refl _ _) (by simp only [ki]; rfl))⟩
theorem k_lenA {s : Nat} {L : List Atm} (hr : ∀ (a : Act) (w : World), (execOp a.eval o).run Tryz.prog w = (execOp (rhoL [(s, a.tmps.getD s undef)]) o).run Tryz.prog w) (hv : ∀ A c w, (execOp (rhoL [(s, .slice A L.length c)]) o).run Tryz.prog w = .ok (.value (.int .i64 L.length)) w) (X : Src τ x w0 o (fun a => a.tmps.getD s undef) (.as_ L)) (ki : τ.T i = .is_ (.int .i64 L.length)) (hg : KGOK τ ops o) : KOK τ x w0 ops Q i o := by
  intro l a w h hl K hK
  obtain ⟨A, c, e1, _⟩ := X l a w h hl
  have e1 : a.tmps.getD s undef = _ := e1
  exact ⟨kgok h hl hg, ow_value (v := .int .i64 L.length) (w' := w) (by rw [hr, e1, hv]) (hK _ _ (Below.refl _ _) (by simp only [ki]; rfl))⟩
theorem k_lenI {s : Nat} {L : List (List Int)} (hr : ∀ (a : Act) (w : World), (execOp a.eval o).run Tryz.prog w = (execOp (rhoL [(s, a.tmps.getD s undef)]) o).run Tryz.prog w) (hv : ∀ A c w, (execOp (rhoL [(s, .slice A L.length c)]) o).run Tryz.prog w = .ok (.value (.int .i64 L.length)) w) (X : Src τ x w0 o (fun a => a.tmps.getD s undef) (.ii L)) (ki : τ.T i = .is_ (.int .i64 L.length)) (hg : KGOK τ ops o) : KOK τ x w0 ops Q i o := by
  intro l a w h hl K hK
  obtain ⟨A, c, e1, _⟩ := X l a w h hl
  have e1 : a.tmps.getD s undef = _ := e1
  exact ⟨kgok h hl hg, ow_value (v := .int .i64 L.length) (w' := w) (by rw [hr, e1, hv]) (hK _ _ (Below.refl _ _) (by simp only [ki]; rfl))⟩
theorem k_at {s : Nat} {y : Atm} {L : List Atm} (hr : ∀ (a : Act) (w : World), (execOp a.eval o).run Tryz.prog w = (execOp (rhoL [(s, a.tmps.getD s undef)]) o).run Tryz.prog w) (hv : ∀ (b off c : Nat) w, (execOp (rhoL [(s, .slice (some ⟨b, off, none⟩) (y :: L).length c)]) o).run Tryz.prog w = .ok (.value (.pointer (some ⟨b, off + 0 * 2, none⟩))) w) (X : Src τ x w0 o (fun a => a.tmps.getD s undef) (.as_ (y :: L))) (ki : τ.T i = .box y) (hg : KGOK τ ops o) : KOK τ x w0 ops Q i o := by
  intro l a w h hl K hK
  obtain ⟨A, c, e1, e2⟩ := X l a w h hl
  obtain ⟨b, off, rfl, hlt, hc⟩ := e2.2.2 (by simp)
  have e1 : a.tmps.getD s undef = _ := e1
  refine ⟨kgok h hl hg, ow_value (v := .pointer (some ⟨b, off + 0 * 2, none⟩)) (w' := w) (by rw [hr, e1, hv]) (hK _ _ (Below.refl _ _) ?_)⟩
  simp only [ki]
  have := hc 0 (by simp)
  exact ⟨b, _, rfl, hlt, this.1, this.2⟩
theorem k_fst {s : Nat} {gs : List (List Int)} {L : List Atm} (hr : ∀ (a : Act) (w : World), (execOp a.eval o).run Tryz.prog w = (execOp (rhoL [(s, a.tmps.getD s undef)]) o).run Tryz.prog w) (hv : ∀ v u w, (execOp (rhoL [(s, .tuple #[v, u])]) o).run Tryz.prog w = .ok (.value v) w) (X : Src τ x w0 o (fun a => a.tmps.getD s undef) (.pr gs L)) (ki : τ.T i = .ii gs) (hg : KGOK τ ops o) : KOK τ x w0 ops Q i o := by
  intro l a w h hl K hK
  obtain ⟨v, u, e1, e2, e3⟩ := X l a w h hl
  have e1 : a.tmps.getD s undef = _ := e1
  exact ⟨kgok h hl hg, ow_value (v := v) (w' := w) (by rw [hr, e1, hv]) (hK _ _ (Below.refl _ _) (by simp only [ki]; exact e2))⟩
theorem k_snd {s : Nat} {gs : List (List Int)} {L : List Atm} (hr : ∀ (a : Act) (w : World), (execOp a.eval o).run Tryz.prog w = (execOp (rhoL [(s, a.tmps.getD s undef)]) o).run Tryz.prog w) (hv : ∀ v u w, (execOp (rhoL [(s, .tuple #[v, u])]) o).run Tryz.prog w = .ok (.value u) w) (X : Src τ x w0 o (fun a => a.tmps.getD s undef) (.pr gs L)) (ki : τ.T i = .as_ L) (hg : KGOK τ ops o) : KOK τ x w0 ops Q i o := by
  intro l a w h hl K hK
  obtain ⟨v, u, e1, e2, e3⟩ := X l a w h hl
  have e1 : a.tmps.getD s undef = _ := e1
  exact ⟨kgok h hl hg, ow_value (v := u) (w' := w) (by rw [hr, e1, hv]) (hK _ _ (Below.refl _ _) (by simp only [ki]; exact e3))⟩

theorem region_told {id : Nat} {a : Act} {w : World} (hn : ops.size = τ.n) (hlow : ∀ i o, ops[i]? = some o → ∀ e, e ∈ o.after → Region.binds .any e = true → e.on < i) (hdst : ∀ i o, ops[i]? = some o → o.dst = some (τ.D i)) (hsz : ∀ i, i < τ.n → τ.D i < τ.sz) (hinj : ∀ i j, i < τ.n → j < τ.n → j ≠ i → τ.D j ≠ τ.D i) (hk : ∀ i, i < τ.n → ∀ j, j ∈ τ.ks → j ≠ τ.D i)
    (hstep : ∀ i o, ops[i]? = some o → KOK τ x w ops Q i o) (hd : a.defers = []) (ht : a.tmps.size = τ.sz) (hkeep : ∀ j, j ∈ τ.ks → a.tmps.getD j undef = x j)
    (hdone : ∀ a' w', a'.defers = [] → a'.tmps.size = τ.sz → (∀ j, j ∈ τ.ks → a'.tmps.getD j undef = x j) → (∀ i, i < τ.n → (τ.T i).holds (a'.tmps.getD (τ.D i) undef) w') → Below w.heap.size w w' → Q .normal a' w') :
    (Code.region id ops true).wp Tryz.prog Q a w := by
  refine wp_region_told (by kernel_rfl) τ.n τ.D (fun i v w => (τ.T i).holds v w) (KP τ x) τ.sz hlow hn hdst hsz hinj ?_ (fun j v w w' hb h => KK.mono _ _ _ _ hb h) hstep hd ht ?_ ?_
  · intro i hi p hp
    obtain ⟨j, hj, rfl⟩ := List.mem_map.1 hp
    exact hk i hi j hj
  · intro p hp
    obtain ⟨j, hj, rfl⟩ := List.mem_map.1 hp
    exact hkeep j hj
  · intro a' w' h1 h2 h3 h4 h5
    exact hdone a' w' h1 h2 (fun j hj => h3 (j, x j) (List.mem_map.2 ⟨j, hj, rfl⟩)) h4 h5
theorem list_told {id : Nat} {a : Act} {w : World} (hn : ops.size = τ.n) (hlow : ∀ i o, ops[i]? = some o → ∀ e, e ∈ o.after → Region.binds .any e = true → e.on < i) (hdst : ∀ i o, ops[i]? = some o → o.dst = some (τ.D i)) (hsz : ∀ i, i < τ.n → τ.D i < τ.sz) (hinj : ∀ i j, i < τ.n → j < τ.n → j ≠ i → τ.D j ≠ τ.D i) (hk : ∀ i, i < τ.n → ∀ j, j ∈ τ.ks → j ≠ τ.D i)
    (hstep : ∀ i o, ops[i]? = some o → KOK τ x w ops Q i o) (hd : a.defers = []) (ht : a.tmps.size = τ.sz) (hkeep : ∀ j, j ∈ τ.ks → a.tmps.getD j undef = x j)
    (hdone : ∀ a' w', a'.defers = [] → a'.tmps.size = τ.sz → (∀ j, j ∈ τ.ks → a'.tmps.getD j undef = x j) → (∀ i, i < τ.n → (τ.T i).holds (a'.tmps.getD (τ.D i) undef) w') → Below w.heap.size w w' → Q .normal a' w') :
    (Code.region id ops false).wp Tryz.prog Q a w := by
  have key : ∀ m k, k + m = τ.n → ∀ a' w' l, KI τ x w l a' w' → (∀ j, j < k → l.getD j false = true) → wpList Tryz.prog ops Q (ops.toList.drop k) a' w' := by
    intro m
    induction m with
    | zero =>
      intro k hkm a' w' l h hl
      rw [List.drop_of_length_le (by simp; omega)]
      refine hdone a' w' h.defers h.tsz (fun j hj => h.kept (j, x j) (List.mem_map.2 ⟨j, hj, rfl⟩)) (fun i hi => h.done i hi (hl i (by omega))) h.below
    | succ m ih =>
      intro k hkm a' w' l h hl
      have hks : k < ops.size := by omega
      have ho : ops[k]? = some ops[k] := Array.getElem?_eq_getElem hks
      rw [List.drop_eq_getElem_cons (by simpa using hks)]
      have hlo : ∀ e, e ∈ ops[k].after → Region.binds .any e = true → l.getD e.on false = true := fun e he hb => hl _ (hlow k _ ho e he hb)
      obtain ⟨hw, hwp⟩ := hstep k _ ho l a' w' h hlo (wpList Tryz.prog ops Q (ops.toList.drop (k + 1))) (fun v w'' hb hv => by
        rw [hdst k _ ho]
        refine ih (k + 1) (by omega) _ _ _ (h.step (by omega) (hsz k (by omega)) (fun j hj e => hinj k j (by omega) hj e) ?_ (fun j v w w' hb h => KK.mono _ _ _ _ hb h) hb hv) ?_
        · intro p hp
          obtain ⟨j, hj, rfl⟩ := List.mem_map.1 hp
          exact hk k (by omega) j hj
        · intro j hj
          rw [Array.getD_eq_getD_getElem?, Array.getElem?_setIfInBounds]
          have hlsz := h.lsz
          by_cases e : k = j
          · subst e; simp [hlsz, hn.symm, hks]
          · simp only [e, if_false]
            have := hl j (by omega)
            rwa [Array.getD_eq_getD_getElem?] at this)
      have he : ops.toList[k]'(by simpa using hks) = ops[k] := by simp
      rw [he]
      unfold wpList
      rw [if_pos hw]
      exact .inl hwp
  refine wp_region_list ?_
  refine key τ.n 0 (by omega) a w (Array.replicate τ.n false) ⟨by simp, hd, ht, ?_, fun i hi hl => by rw [Array.getD_eq_getD_getElem?] at hl; simp [hi] at hl, ⟨rfl, rfl, rfl, Nat.le_refl _, fun _ _ => rfl⟩⟩ (fun j hj => absurd hj (by omega))
  intro p hp
  obtain ⟨j, hj, rfl⟩ := List.mem_map.1 hp
  exact hkeep j hj
end
end Go.Proofs.YtfheoplcjeimdaaGreatDoor
