/- A slice of slices of ints that the call itself has made: each row in a block of its own. -/
import Derived.Test.YtfheoplcjeimdaaGreatDoorBy
import Derived.Deep.AppendLies
import Derived.Deep.Onto
namespace Go.Proofs.YtfheoplcjeimdaaGreatDoor
open Go.RowKit
set_option linter.unusedVariables false
set_option linter.unusedSimpArgs false

def ints (l : List Int) : List Value := l.map (.int .i64)
theorem ints_append (a b : List Int) : ints (a ++ b) = ints a ++ ints b := by simp [ints]
theorem ints_length (a : List Int) : (ints a).length = a.length := by simp [ints]

theorem info_int : (Tryz.prog.info? 3).map (fun i => (i.zero, i.size, i.bytes)) = some (some (.int .i64 0), 1, 8) := by kernel_rfl
theorem info_ints : (Tryz.prog.info? 35).map (fun i => (i.zero, i.size, i.bytes)) = some (some (.slice none 0 0), 1, 24) := by kernel_rfl

theorem own_type_ne {w : World} {b b' : Nat} {e e' : TypeId} {s s' n n' : Nat} {v v' : Value} {xs xs' : List Value} (h : w.ownsRow b e s v n xs) (h' : w.ownsRow b' e' s' v' n' xs') (hne : e ≠ e') : v.ownBlock = none ∨ v.ownBlock ≠ v'.ownBlock := by
  rcases h.2 with ⟨rfl, _⟩ | ⟨g, cap, cur, rfl, _, hh, _⟩
  · exact .inl rfl
  · refine .inr fun hk => ?_
    rcases h'.2 with ⟨rfl, _⟩ | ⟨g', cap', cur', rfl, _, hh', _⟩
    · simp [Value.ownBlock] at hk
    · have : g = g' := by simpa [Value.ownBlock] using hk
      subst this
      rw [hh] at hh'
      injection hh' with hh'
      injection hh' with _ ht
      exact hne ht

theorem grown_below {w w1 : World} (h : Below w.heap.size w w1) (row : Option Nat) : w.grownBy w1 row := ⟨h.os, h.tape, h.output, h.size, fun i hi _ => h.block i hi⟩
theorem own_below {w w1 : World} {base : Nat} {e : TypeId} {size n : Nat} {v : Value} {xs : List Value} (h : w.ownsRow base e size v n xs) (hb : Below w.heap.size w w1) : w1.ownsRow base e size v n xs :=
  h.kept (grown_below hb none) (by cases v.ownBlock <;> simp)
theorem below_grown {B : Nat} {w w1 w2 : World} {v : Value} {base : Nat} {e : TypeId} {size n : Nat} {xs : List Value} (h : Below B w w1) (hB : B ≤ w1.heap.size) (hg : w1.grownBy w2 v.ownBlock) (ho : w1.ownsRow base e size v n xs) (hbb : B ≤ base) : Below B w w2 :=
  h.grown hg hB fun k hk => Nat.le_trans hbb (ho.lt k hk).1

theorem getD_left {α : Type} (a b : List α) (d : α) (i : Nat) (h : i < a.length) : (a ++ b).getD i d = a.getD i d := by
  rw [List.getD_eq_getElem?_getD, List.getD_eq_getElem?_getD, List.getElem?_append_left h]
theorem getD_last {α : Type} (a : List α) (x d : α) (i : Nat) (h : i = a.length) : (a ++ [x]).getD i d = x := by
  subst h; rw [List.getD_eq_getElem?_getD, List.getElem?_append_right (Nat.le_refl _)]; simp

/-- append of one element, which stands in a new block, to a row of the call's own. -/
theorem app_one {P : Program} {ops : Array Oper} {rest : List Oper} {o : Oper} {a : Act} {Q : Exit → Act → World → Prop} {W : World} (base : Nat) (hgd : o.guard = none) (s x : Operand) (t e : TypeId) (z : Value) (bytes : Nat)
    (ho : o.op = .call { callee := .builtin .append, args := #[s, x], argTypes := #[t, t] })
    (ht : P.underlying t = some (.slice e)) (hinfo : (P.info? e).map (fun i => (i.zero, i.size, i.bytes)) = some (some z, 1, bytes)) (hz : z.cells.size = 1)
    (v : Value) (n : Nat) (xs : List Value) (hs : a.eval s = v) (B : Nat) (hB : W.heap.size = B) (y : Value) (hx : a.eval x = .slice (some ⟨B, 0, none⟩) 1 1) (h1 : y.oneCell' = true)
    (HO : W.ownsRow base e 1 v n xs) (hbase : base ≤ W.heap.size) (hl : (n + 1) * bytes ≤ 140737488355328) (hm : n + 1 ≤ maxLen)
    (h : ∀ g cap w1, w1.ownsRow base e 1 (.slice (some ⟨g, 0, none⟩) (n + 1) cap) (n + 1) (xs ++ [y]) → (W.alloc (.cells #[y] e)).grownBy w1 v.ownBlock → (v.ownBlock = some g ∨ g = B + 1) → g < w1.heap.size →
      wpList P ops Q rest (a.put o.dst (.slice (some ⟨g, 0, none⟩) (n + 1) cap)) w1) :
    wpList P ops Q (o :: rest) a (W.alloc (.cells #[y] e)) := by
  obtain ⟨i0, hi, hz0, hz1, hz2⟩ := info_parts hinfo
  subst hB
  exact wpList_append_lies (W.alloc (.cells #[y] e)) hgd s x t ho base e i0 z 1 bytes ht hi hz0 hz1 hz2 hz (by decide) v n xs hs (HO.alloc _) ⟨W.heap.size, 0, none⟩ 1 1 [y] hx rfl
    (World.news_of_block (cs := #[y]) (t := e) (fr := (0, 0)) (heap_alloc_new W _)) (by simpa using h1) (by decide) hm hl (by simp; omega) (W.heap.size + 1) (by simp) h

/-- The rows 'gs' stand in the value v; 'vs' are the inner slices. -/
structure OwnII (w : World) (base : Nat) (v : Value) (gs : List (List Int)) (vs : List Value) : Prop where
  outer : w.ownsRow base 35 1 v gs.length vs
  inner : ∀ i, i < gs.length → w.ownsRow base 3 1 (vs.getD i undef) (gs.getD i []).length (ints (gs.getD i []))
  apart : ∀ i j, i < gs.length → j < gs.length → i ≠ j → (vs.getD i undef).ownBlock = none ∨ (vs.getD i undef).ownBlock ≠ (vs.getD j undef).ownBlock

theorem OwnII.len {w : World} {base : Nat} {v : Value} {gs : List (List Int)} {vs : List Value} (h : OwnII w base v gs vs) : vs.length = gs.length := by have := h.outer.1; omega

theorem OwnII.nil (w : World) (base : Nat) : OwnII w base (.slice none 0 0) [] [] := ⟨World.ownsRow_nil _ _ _ _, fun i h => absurd h (by simp), fun i j h => absurd h (by simp)⟩

/-- Other memory turns. -/
theorem OwnII.below {w w1 : World} {base : Nat} {v : Value} {gs : List (List Int)} {vs : List Value} (h : OwnII w base v gs vs) (hb : Below w.heap.size w w1) : OwnII w1 base v gs vs :=
  ⟨own_below h.outer hb, fun i hi => own_below (h.inner i hi) hb, h.apart⟩

/-- A new row, made in a block of its own, is put behind the others. -/
theorem OwnII.push {w w1 : World} {base : Nat} {v v1 u : Value} {gs : List (List Int)} {vs : List Value} {g : List Int} (h : OwnII w base v gs vs)
    (hu : w.ownsRow base 3 1 u g.length (ints g)) (hn : ∀ i, i < gs.length → (vs.getD i undef).ownBlock = none ∨ (vs.getD i undef).ownBlock ≠ u.ownBlock) (hun : u.ownBlock ≠ none)
    (ho : w1.ownsRow base 35 1 v1 (gs.length + 1) (vs ++ [u])) (hg : w.grownBy w1 v.ownBlock) : OwnII w1 base v1 (gs ++ [g]) (vs ++ [u]) := by
  have hl := h.len
  have hku := hu.kept hg (own_type_ne hu h.outer (by decide))
  refine ⟨by simpa using ho, fun i hi => ?_, fun i j hi hj hne => ?_⟩
  · rw [List.length_append, List.length_singleton] at hi
    rcases Nat.lt_or_ge i gs.length with e | e
    · rw [getD_left _ _ _ _ (by omega), getD_left _ _ _ _ e]
      exact (h.inner i e).kept hg (own_type_ne (h.inner i e) h.outer (by decide))
    · obtain rfl : i = gs.length := by omega
      rw [getD_last _ _ _ _ (by omega), getD_last _ _ _ _ rfl]
      exact hku
  · rw [List.length_append, List.length_singleton] at hi hj
    rcases Nat.lt_or_ge i gs.length with e | e
    · rw [getD_left _ _ _ _ (by omega)]
      rcases Nat.lt_or_ge j gs.length with e' | e'
      · rw [getD_left _ _ _ _ (by omega)]; exact h.apart i j e e' hne
      · obtain rfl : j = gs.length := by omega
        rw [getD_last vs _ _ _ (by omega)]
        exact hn i e
    · obtain rfl : i = gs.length := by omega
      rw [getD_last vs _ _ _ (by omega)]
      have e' : j < gs.length := by omega
      rw [getD_left _ _ _ _ (by omega)]
      rcases hn j e' with e2 | e2
      · right; rw [e2]; exact hun
      · right; exact e2.symm

/-- A row is turned (its block, or a new one), and stored back in its place. -/
theorem OwnII.turn {w w1 : World} {base : Nat} {u : Value} {gs : List (List Int)} {vs : List Value} {g : List Int} {k b cap : Nat} (h : OwnII w base (.slice (some ⟨b, 0, none⟩) gs.length cap) gs vs) (hk : k < gs.length)
    (hu : w1.ownsRow base 3 1 u g.length (ints g)) (hg : w.grownBy w1 (vs.getD k undef).ownBlock) (hun : u.ownBlock = (vs.getD k undef).ownBlock ∨ ∃ m, u.ownBlock = some m ∧ w.heap.size ≤ m) :
    OwnII (w1.setCell ⟨b, k, none⟩ u) base (.slice (some ⟨b, 0, none⟩) gs.length cap) (gs.set k g) (vs.set k u) ∧ w1.grownBy (w1.setCell ⟨b, k, none⟩ u) (some b) := by
  have hl := h.len
  have ho1 := h.outer.kept hg (own_type_ne h.outer (h.inner k hk) (by decide))
  obtain ⟨hs, hg2⟩ := ho1.stored k u
  have keep : ∀ {v' : Value} {n : Nat} {xs : List Value}, w1.ownsRow base 3 1 v' n xs → (w1.setCell ⟨b, k, none⟩ u).ownsRow base 3 1 v' n xs := fun hv => hv.kept hg2 (own_type_ne hv ho1 (by decide))
  have oth : ∀ i, i < gs.length → i ≠ k → w1.ownsRow base 3 1 (vs.getD i undef) (gs.getD i []).length (ints (gs.getD i [])) := fun i hi hne => (h.inner i hi).kept hg (h.apart i k hi hk hne)
  have farU : ∀ i, i < gs.length → i ≠ k → (vs.getD i undef).ownBlock = none ∨ (vs.getD i undef).ownBlock ≠ u.ownBlock := by
    intro i hi hne
    rcases hun with e | ⟨m, e, hm⟩
    · rw [e]; exact h.apart i k hi hk hne
    · rw [e]
      cases hq : (vs.getD i undef).ownBlock with
      | none => exact .inl rfl
      | some q => right; intro e2; have := ((h.inner i hi).lt q hq).2; injection e2 with e2; omega
  refine ⟨⟨by simpa using hs, fun i hi => ?_, fun i j hi hj hne => ?_⟩, hg2⟩
  · rw [List.length_set] at hi
    rw [List.getD_eq_getElem?_getD, List.getD_eq_getElem?_getD, List.getElem?_set, List.getElem?_set]
    by_cases e : k = i
    · subst e
      rw [if_pos rfl, if_pos rfl, if_pos (by omega), if_pos hk]
      exact keep hu
    · rw [if_neg e, if_neg e, ← List.getD_eq_getElem?_getD, ← List.getD_eq_getElem?_getD]
      exact keep (oth i hi (fun e' => e e'.symm))
  · rw [List.length_set] at hi hj
    rw [List.getD_eq_getElem?_getD, List.getD_eq_getElem?_getD, List.getElem?_set, List.getElem?_set]
    by_cases e : k = i
    · subst e
      rw [if_pos rfl, if_pos (by omega), if_neg hne, ← List.getD_eq_getElem?_getD]
      rcases farU j hj (fun e' => hne e'.symm) with e2 | e2
      · rcases hq : u.ownBlock with _ | q
        · left; simpa using hq
        · right; rw [e2]; simp [hq]
      · right; simpa using e2.symm
    · rw [if_neg e, ← List.getD_eq_getElem?_getD]
      by_cases e' : k = j
      · subst e'
        rw [if_pos rfl, if_pos (by omega)]
        simpa using farU i hi (fun e2 => e e2.symm)
      · rw [if_neg e', ← List.getD_eq_getElem?_getD]
        exact h.apart i j hi hj hne
end Go.Proofs.YtfheoplcjeimdaaGreatDoor
