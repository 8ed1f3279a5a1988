/- Members of the call's own: append, one box set; the place of the first element that a test holds of. -/
import Derived.Laws.AppendOwnNone
import Derived.Test.YtgmnabflendikaaGreatDoorM3
import Derived.Test.YtgmnabflendikaaGreatDoorM2
namespace Go.Proofs.YtgmnabflendikaaGreatDoor
open Go.RowKit
set_option linter.unusedVariables false
set_option linter.unusedSimpArgs false

/-- The place of the first element that p holds of, or -1. -/
def whr {α : Type} (p : α → Bool) : List α → Int → Int
  | [], _ => -1
  | x :: l, i => if p x then i else whr p l (i + 1)
theorem whr_no {α : Type} {p : α → Bool} : ∀ {l : List α} {i : Int}, (∀ x, x ∈ l → p x = false) → whr p l i = -1
  | [], _, _ => rfl
  | x :: l, i, h => by
    simp only [whr]
    rw [if_neg (by rw [h x (List.mem_cons_self ..)]; decide)]
    exact whr_no fun y hy => h y (List.mem_cons_of_mem _ hy)
theorem whr_yes {α : Type} {p : α → Bool} : ∀ {l : List α} {i : Int}, 0 ≤ i → (∃ x, x ∈ l ∧ p x = true) → 0 ≤ whr p l i
  | [], _, _, ⟨x, hx, _⟩ => by cases hx
  | y :: l, i, hi, ⟨x, hx, h⟩ => by
    simp only [whr]
    by_cases hy : p y = true
    · rw [if_pos hy]; exact hi
    · rw [if_neg hy]
      rcases List.mem_cons.1 hx with rfl | hx
      · exact absurd h hy
      · exact whr_yes (by omega) ⟨x, hx, h⟩
def notArr (r : IRow) : Bool := r.k != 3
theorem OwnM.form {W : World} {base : Nat} {v : Value} {l : List Value} (h : OwnM W base v l) : ∃ A c, v = .slice A l.length c ∧ Capd A l.length c := by
  rcases h.2 with ⟨rfl, h1⟩ | ⟨g, cap, cur, rfl, _, _, h3, h4, _⟩
  · exact ⟨none, 0, by rw [h1], by rw [h1]; exact ⟨fun _ => rfl, Nat.le_refl _, by simp⟩⟩
  · exact ⟨_, _, rfl, fun e => (by cases e), h3, h4⟩
theorem OwnM.kept {W W' : World} {base B : Nat} {v : Value} {l : List Value} (h : OwnM W base v l) (hb : Below W.heap.size W W') : OwnM W' base v l := ownB h hb
/-- Another list of members is appended to one of the call's own. -/
theorem appM {ops : Array Oper} {rest : List Oper} {o : Oper} {a : Act} {Q : Exit → Act → World → Prop} {W : World} (base : Nat) (hgd : o.guard = none) (s x : Operand)
    (ho : o.op = .call { callee := .builtin .append, args := #[s, x], argTypes := #[25, 25] })
    (v : Value) (l ms : List Value) (hs : a.eval s = v) (u : Value) (hx : a.eval x = u) (hu : RdM W ms u) (h1 : ∀ m, m ∈ ms → m.oneCell' = true)
    (HO : OwnM W base v l) (hbase : base ≤ W.heap.size) (hl : l.length + ms.length ≤ 1000000)
    (h : ∀ v' w1, OwnM w1 base v' (l ++ ms) → W.grownBy w1 v.ownBlock → wpList Tryz.prog ops Q rest (a.put o.dst v') w1) :
    wpList Tryz.prog ops Q (o :: rest) a W := by
  obtain ⟨i0, hi, hz0, hz1, hz2⟩ := info_parts info_qI
  obtain ⟨A, c, rfl, hm⟩ := hu.form
  have hcap := RdRows.capd hu
  rcases A with _ | ad
  · have h0 : ms.length = 0 := by
      rcases Nat.eq_zero_or_pos ms.length with e | e
      · exact e
      · obtain ⟨b, off, _, e2, _⟩ := hu.row (Below.refl _ _) e; cases e2
    obtain rfl : ms = [] := List.length_eq_zero_iff.1 h0
    obtain rfl := hcap.1 rfl
    refine wpList_append_own_none hgd s x 25 ho base 29 i0 1 Tryz.underlying25 hi v l.length l hs HO hx ?_
    exact h v W (by rw [List.append_nil]; exact HO) (World.grownBy.refl _ _)
  · refine wpList_append_own _ hgd s x 25 ho base 29 i0 (.slice none 0 0) 1 24 Tryz.underlying25 hi hz0 hz1 hz2 rfl (by decide) v l.length l hs HO ad ms.length c ms hx (by simp) ?_ h1 (by simp only [maxLen]; omega) (by omega) hbase ?_
    · intro j y hj
      have hjn : j < ms.length := (List.getElem?_eq_some_iff.1 hj).1
      obtain ⟨b, off, _, e, hlt, _⟩ := hu.row (Below.refl _ _) (show 0 < ms.length by omega)
      cases e
      rw [Addr.add_lit]
      exact hu.cells j y hj
    · intro v' w' ho hg _
      refine h v' w' ?_ hg
      unfold OwnM
      rw [List.length_append]
      exact ho
theorem grow_set8 {W : World} {X : Nat} {b0 b1 b2 b3 b4 b5 b6 b7 : Value} : W.grownBy (set8 W X b0 b1 b2 b3 b4 b5 b6 b7) (some X) :=
  ((((((grow_set.trans grow_set).trans grow_set).trans grow_set).trans grow_set).trans grow_set).trans grow_set).trans grow_set
theorem OwnM.set8 {W : World} {base X : Nat} {v : Value} {l : List Value} (h : OwnM W base v l) (hX : X < base) (b0 b1 b2 b3 b4 b5 b6 b7 : Value) : OwnM (set8 W X b0 b1 b2 b3 b4 b5 b6 b7) base v l := by
  refine World.ownsRow.kept h grow_set8 ?_
  cases hv : v.ownBlock with
  | none => exact .inl rfl
  | some k =>
    right
    intro e
    injection e with e
    have := (World.ownsRow.lt h k hv).1
    omega
abbrev zblk : Obj := .cells #[.int .i64 0, .int .i64 0, .string { data := #[] }, .int .i64 0, .int .i64 0, .slice none 0 0, .slice none 0 0, .pointer none] 28
end Go.Proofs.YtgmnabflendikaaGreatDoor
/- slices.Insert of members, at the end. -/
namespace Go.Proofs.YtgmnabflendikaaGreatDoor
open Go.RowKit
set_option linter.unusedVariables false
set_option linter.unusedSimpArgs false

/-- What an insertion leaves: members that read as a list; what lay below base stands. -/
def InsP (base : Nat) (ms : List Value) (w : World) (e : Ending) (w' : World) : Prop := ∃ v, e = .returned v ∧ OwnM w' base v ms ∧ Below base w w'
set_option maxRecDepth 100000 in
theorem insEnd_any (ms : List Value) (x : Value) (s : Value) (X base : Nat) (w : World) (h : OwnM w base s ms) (hb : base ≤ w.heap.size) (hx : RdM w [x] (.slice (some ⟨X, 0, none⟩) 1 1)) (h1 : x.oneCell' = true) (hn : ms.length ≤ 900000) :
    Calls Tryz.prog 25 #[s, .int .i64 ms.length, .slice (some ⟨X, 0, none⟩) 1 1] w (InsP base (ms ++ [x]) w) := by
  obtain ⟨A, c, rfl, hc⟩ := h.form
  have H := Lib.hid h
  have HX := Lib.hid hx
  obtain ⟨_, hc2, hc3⟩ := hc
  unfold maxLen at hc3
  clear h hx
  generalize hl : ms.length = m at *
  have HM := Lib.hid hl
  clear hl
  by_cases hcm : c = m
  all_goals
    try subst hcm
    go_enter Tryz.func25, Tryz.ntmps25
    go_wp2_with (at_builtin; refine appM base rfl (.tmp 23) (.tmp 24) rfl _ ms [x] rfl _ rfl HX.out (by intro q hq; rw [List.mem_singleton.1 hq]; exact h1) H.out hb (by have := HM.out; simp; omega) ?_)
    intro v' w1 ho hg
    have HE : Hid (InsP base (ms ++ [x]) w (.returned v') w1) := Lib.hid ⟨v', rfl, ho, belG (Below.refl _ _) hb hg H.out (Nat.le_refl _)⟩
    clear ho hg
    go_wp2
    go_ret
    exact HE.out
end Go.Proofs.YtgmnabflendikaaGreatDoor
/- Parts of members: what stands ahead of a place, and from it on. -/
namespace Go.Proofs.YtgmnabflendikaaGreatDoor
open Go.RowKit
set_option linter.unusedVariables false
set_option linter.unusedSimpArgs false

theorem one_getD (ms : List Value) (j : Nat) (hj : j < ms.length) : (((ms.map fun x => [x]).getD j []).getD 0 undef) = ms[j] := by
  simp [List.getD_eq_getElem?_getD, List.getElem?_map, List.getElem?_eq_getElem hj]
/-- Members, by their cells. -/
theorem rdM_iff {w : World} {ms : List Value} {A : Option Addr} {n c : Nat} : RdM w ms (.slice A n c) ↔ n = ms.length ∧ Capd A n c ∧ (0 < n → ∃ b off, A = some ⟨b, off, none⟩ ∧ b < w.heap.size ∧ ∀ j (hj : j < ms.length), w.cell? ⟨b, off + j, none⟩ = some ms[j]) := by
  constructor
  · rintro ⟨A', c', e, hc, hr⟩
    have hl : (ms.map fun x => [x]).length = ms.length := by simp
    cases e
    rw [hl] at hc hr ⊢
    refine ⟨rfl, hc, fun h0 => ?_⟩
    obtain ⟨b, off, e, hlt, hcell⟩ := hr h0
    refine ⟨b, off, e, hlt, fun j hj => ?_⟩
    have := hcell j hj 0 (by omega)
    rw [one_getD ms j hj] at this
    rw [← this]
    congr 2
    omega
  · rintro ⟨rfl, hc, hr⟩
    refine ⟨A, c, by simp, by simpa using hc, fun h0 => ?_⟩
    obtain ⟨b, off, e, hlt, hcell⟩ := hr (by simpa using h0)
    refine ⟨b, off, e, hlt, fun j hj i hi => ?_⟩
    obtain rfl : i = 0 := by omega
    have hj' : j < ms.length := by simpa using hj
    rw [one_getD ms j hj', ← hcell j hj']
    congr 2
    omega
theorem RdM.take {w : World} {ms : List Value} {A : Option Addr} {n c k : Nat} (h : RdM w ms (.slice A n c)) (hk : k ≤ n) : RdM w (ms.take k) (.slice A k c) := by
  obtain ⟨rfl, hc, hr⟩ := rdM_iff.1 h
  refine rdM_iff.2 ⟨by simp; omega, ⟨hc.1, by have := hc.2.1; omega, hc.2.2⟩, fun h0 => ?_⟩
  obtain ⟨b, off, e, hlt, hcell⟩ := hr (by omega)
  refine ⟨b, off, e, hlt, fun j hj => ?_⟩
  rw [List.getElem_take]
  exact hcell j (by simp at hj; omega)
theorem RdM.drop {w : World} {ms : List Value} {b off n c k : Nat} (h : RdM w ms (.slice (some ⟨b, off, none⟩) n c)) (hk : k ≤ n) : RdM w (ms.drop k) (.slice (if c = k then some ⟨b, off, none⟩ else some ⟨b, off + k, none⟩) (n - k) (c - k)) := by
  obtain ⟨rfl, hc, hr⟩ := rdM_iff.1 h
  have hc1 := hc.2.1
  refine rdM_iff.2 ⟨by simp, ⟨?_, by omega, by have := hc.2.2; omega⟩, fun h0 => ?_⟩
  · intro e
    split at e <;> cases e
  · obtain ⟨b', off', e, hlt, hcell⟩ := hr (by omega)
    cases e
    rw [if_neg (by omega)]
    refine ⟨b, off + k, rfl, hlt, fun j hj => ?_⟩
    rw [List.getElem_drop, ← hcell (k + j) (by simp at hj; omega)]
    congr 2
    omega
theorem RdM.drop_ne {w : World} {ms : List Value} {b off n c k : Nat} (h : RdM w ms (.slice (some ⟨b, off, none⟩) n c)) (hk : k ≤ n) (hc : ¬ c = k) : RdM w (ms.drop k) (.slice (some ⟨b, off + k, none⟩) (n - k) (c - k)) := by
  have := h.drop hk
  rwa [if_neg hc] at this
theorem RdM.drop_eq {w : World} {ms : List Value} {b off n c k : Nat} (h : RdM w ms (.slice (some ⟨b, off, none⟩) n c)) (hk : k ≤ n) (hc : c = k) : RdM w (ms.drop k) (.slice (some ⟨b, off, none⟩) (n - k) (c - k)) := by
  have := h.drop hk
  rwa [if_pos hc] at this
/-- The address of members, if there are any. -/
theorem RdM.at {w : World} {ms : List Value} {A : Option Addr} {n c : Nat} (h : RdM w ms (.slice A n c)) (h0 : 0 < n) : ∃ b off, A = some ⟨b, off, none⟩ ∧ n ≤ c ∧ c ≤ maxLen := by
  obtain ⟨rfl, hc, hr⟩ := rdM_iff.1 h
  obtain ⟨b, off, e, _⟩ := hr h0
  exact ⟨b, off, e, hc.2.1, hc.2.2⟩
end Go.Proofs.YtgmnabflendikaaGreatDoor
