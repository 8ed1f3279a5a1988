/- groups.cut: items are cut into groups where a closure says so; the groups lie in one row. -/
import Derived.Test.YtfheoplcjeimdaaGreatDoorRst
namespace Go.Proofs.YtfheoplcjeimdaaGreatDoor
open Go.RowKit
set_option linter.unusedVariables false
set_option linter.unusedSimpArgs false

/-- The numbers from a to b - 1. -/
def rng (a b : Nat) : List Int := (List.range' a (b - a)).map (fun (n : Nat) => (n : Int))
/-- The groups that are closed behind k items, by their borders, and where the open one began. -/
def cutF (beg : Nat → Bool) : Nat → List (Nat × Nat) × Nat
  | 0 => ([], 0)
  | k + 1 => if decide (0 < k) && beg k then ((cutF beg k).1 ++ [((cutF beg k).2, k)], k) else cutF beg k
def rngs (l : List (Nat × Nat)) : List (List Int) := l.map fun p => rng p.1 p.2

theorem rng_len (a b : Nat) : (rng a b).length = b - a := by simp [rng]
theorem rng_succ (a b : Nat) (h : a ≤ b) : rng a (b + 1) = rng a b ++ [(b : Int)] := by
  unfold rng
  rw [show b + 1 - a = (b - a) + 1 by omega, List.range'_concat]
  simp; omega
theorem cutF_from (beg : Nat → Bool) : ∀ k, (cutF beg k).2 ≤ k ∧ (0 < k → (cutF beg k).2 < k)
  | 0 => ⟨Nat.le_refl _, fun h => absurd h (by omega)⟩
  | k + 1 => by
    have ih := cutF_from beg k
    unfold cutF
    split
    · exact ⟨by show k ≤ k + 1; omega, fun _ => by show k < k + 1; omega⟩
    · exact ⟨by omega, fun _ => by omega⟩
theorem cutF_in (beg : Nat → Bool) : ∀ k p, p ∈ (cutF beg k).1 → p.1 < p.2 ∧ p.2 ≤ k
  | 0, p, h => by simp [cutF] at h
  | k + 1, p, h => by
    have ih := cutF_in beg k p
    have hf := cutF_from beg k
    unfold cutF at h
    split at h
    · rename_i hc
      simp only [List.mem_append, List.mem_singleton] at h
      rcases h with h | h
      · have := ih h; omega
      · subst h; simp only [Bool.and_eq_true, decide_eq_true_eq] at hc; exact ⟨hf.2 hc.1, Nat.le_succ _⟩
    · have := ih h; omega
theorem cutF_len (beg : Nat → Bool) : ∀ k, (cutF beg k).1.length ≤ k
  | 0 => Nat.le_refl _
  | k + 1 => by
    have ih := cutF_len beg k
    unfold cutF
    split
    · simp; exact ih
    · omega
theorem grp_cut (beg : Nat → Bool) : ∀ k, 0 < k → grp beg k = rngs (cutF beg k).1 ++ [rng (cutF beg k).2 k]
  | 1, _ => by simp [grp, putL, cutF, rngs, rng]
  | k + 2, _ => by
    have ih := grp_cut beg (k + 1) (by omega)
    have hf := cutF_from beg (k + 1)
    show putL (grp beg (k + 1)) (k + 1) (beg (k + 1)) = _
    rw [show cutF beg (k + 2) = if decide (0 < k + 1) && beg (k + 1) then ((cutF beg (k + 1)).1 ++ [((cutF beg (k + 1)).2, k + 1)], k + 1) else cutF beg (k + 1) from rfl]
    unfold putL
    cases hb : beg (k + 1) with
    | true =>
      rw [if_pos (.inr rfl), if_pos (by simp), ih]
      simp [rngs, rng]
    | false =>
      rw [if_neg (by simp), if_neg (by simp), ih, rng_succ _ _ hf.1]
      rw [List.length_append, List.length_singleton, Nat.add_sub_cancel, getD_last _ _ _ _ rfl]
      rw [List.set_append_right _ _ (Nat.le_refl _)]
      simp

/-- A slice of ints reads as a list; a slice of such slices. -/
def RdInts (w : World) (A : Option Addr) (n : Nat) (l : List Int) : Prop :=
  l.length = n ∧ (0 < n → ∃ b off, A = some ⟨b, off, none⟩ ∧ b < w.heap.size ∧ ∀ j, j < n → w.cell? ⟨b, off + j, none⟩ = some (.int .i64 (l.getD j 0)))
def RdII (w : World) (v : Value) (gs : List (List Int)) : Prop :=
  ∃ A c, v = .slice A gs.length c ∧ (0 < gs.length → ∃ b off, A = some ⟨b, off, none⟩ ∧ b < w.heap.size ∧
    ∀ j, j < gs.length → ∃ Aj cj, w.cell? ⟨b, off + j, none⟩ = some (.slice Aj (gs.getD j []).length cj) ∧ RdInts w Aj (gs.getD j []).length (gs.getD j []))
theorem RdInts.below {w w1 : World} {A : Option Addr} {n : Nat} {l : List Int} (h : RdInts w A n l) (hb : Below w.heap.size w w1) : RdInts w1 A n l :=
  ⟨h.1, fun hn => by
    obtain ⟨b, off, e, hlt, hc⟩ := h.2 hn
    have hs := hb.size
    exact ⟨b, off, e, by omega, fun j hj => (hb.cell (p := ⟨b, _, none⟩) hlt).trans (hc j hj)⟩⟩
theorem RdII.below {w w1 : World} {v : Value} {gs : List (List Int)} (h : RdII w v gs) (hb : Below w.heap.size w w1) : RdII w1 v gs := by
  obtain ⟨A, c, e, h⟩ := h
  refine ⟨A, c, e, fun hn => ?_⟩
  obtain ⟨b, off, e, hlt, hc⟩ := h hn
  have hs := hb.size
  refine ⟨b, off, e, by omega, fun j hj => ?_⟩
  obtain ⟨Aj, cj, h1, h2⟩ := hc j hj
  exact ⟨Aj, cj, (hb.cell (p := ⟨b, _, none⟩) hlt).trans h1, h2.below hb⟩

/-- What the call's own rows read as. -/
theorem own_ints {w : World} {base : Nat} {v : Value} {l : List Int} (h : w.ownsRow base 3 1 v l.length (ints l)) : ∃ A c, v = .slice A l.length c ∧ RdInts w A l.length l := by
  rcases Nat.eq_zero_or_pos l.length with h0 | h0
  · rcases h.2 with ⟨rfl, h1⟩ | ⟨g, cap, cur, rfl, _⟩
    · exact ⟨none, 0, by rw [h1], rfl, fun hp => absurd hp (by omega)⟩
    · exact ⟨_, cap, rfl, rfl, fun hp => absurd hp (by omega)⟩
  · obtain ⟨g, c, rfl, _, hlt⟩ := h.form h0
    refine ⟨_, c, rfl, rfl, fun _ => ⟨g, 0, rfl, hlt, fun j hj => ?_⟩⟩
    rw [Nat.zero_add, h.cellAt j (by omega)]
    simp [ints, List.getElem?_eq_getElem hj, List.getD_eq_getElem?_getD]
theorem OwnII.reads {w : World} {base : Nat} {v : Value} {gs : List (List Int)} {vs : List Value} (h : OwnII w base v gs vs) : RdII w v gs := by
  have hl := h.len
  rcases Nat.eq_zero_or_pos gs.length with h0 | h0
  · rcases h.outer.2 with ⟨rfl, h1⟩ | ⟨g, cap, cur, rfl, _⟩
    · exact ⟨none, 0, by rw [h1], fun hp => absurd hp (by omega)⟩
    · exact ⟨_, cap, rfl, fun hp => absurd hp (by omega)⟩
  · obtain ⟨g, c, rfl, _, hlt⟩ := h.outer.form h0
    refine ⟨_, c, rfl, fun _ => ⟨g, 0, rfl, hlt, fun j hj => ?_⟩⟩
    obtain ⟨Aj, cj, e, hr⟩ := own_ints (h.inner j hj)
    refine ⟨Aj, cj, ?_, hr⟩
    rw [Nat.zero_add, h.outer.cellAt j (by omega), ← e, List.getD_eq_getElem?_getD, List.getElem?_eq_getElem (by omega)]; rfl
end Go.Proofs.YtfheoplcjeimdaaGreatDoor
