/- The first items of groups by marks. -/
import Derived.Test.YtfheoplcjeimdaaGreatDoorRst
namespace Go.Proofs.YtfheoplcjeimdaaGreatDoor
set_option linter.unusedVariables false
set_option linter.unusedSimpArgs false

/-- The items that begin a group. -/
def starts (beg : Nat → Bool) (k : Nat) : List Nat := (List.range k).filter (fun j => decide (j = 0) || beg j)
theorem starts_succ (beg : Nat → Bool) (k : Nat) : starts beg (k + 1) = starts beg k ++ (if k = 0 ∨ beg k = true then [k] else []) := by
  unfold starts
  rw [List.range_succ, List.filter_append]
  congr 1
  by_cases h : k = 0 ∨ beg k = true
  · rw [if_pos h]; rcases h with h | h <;> simp [List.filter, h]
  · rw [if_neg h]
    have h1 : ¬ k = 0 := fun e => h (.inl e)
    have h2 : beg k = false := by cases hb : beg k with | false => rfl | true => exact absurd (.inr hb) h
    simp [List.filter, h1, h2]
theorem grp_ne (beg : Nat → Bool) : ∀ k j, j < (grp beg k).length → (grp beg k).getD j [] ≠ []
  | 0, j, h => by simp [grp] at h
  | k + 1, j, h => by
    have ih := grp_ne beg k
    change j < (putL _ _ _).length at h
    show (putL (grp beg k) k (beg k)).getD j [] ≠ []
    unfold putL at h ⊢
    split at h
    · rename_i c
      rw [if_pos c]
      simp only [List.length_append, List.length_singleton] at h
      rcases Nat.lt_or_ge j (grp beg k).length with e | e
      · rw [getD_left _ _ _ _ e]; exact ih j e
      · rw [getD_last _ _ _ _ (by omega)]; simp
    · rename_i c
      rw [if_neg c]
      rw [List.length_set] at h
      rw [List.getD_eq_getElem?_getD, List.getElem?_set]
      split
      · rw [if_pos (by omega)]; simp
      · rw [← List.getD_eq_getElem?_getD]; exact ih j h
theorem grp_heads (beg : Nat → Bool) : ∀ k, (grp beg k).map (fun g => g.headD 0) = (starts beg k).map fun (j : Nat) => (j : Int)
  | 0 => rfl
  | k + 1 => by
    have ih := grp_heads beg k
    show (putL (grp beg k) k (beg k)).map _ = _
    rw [starts_succ]
    unfold putL
    by_cases c : k = 0 ∨ beg k = true
    · rw [if_pos c, if_pos c, List.map_append, List.map_append, ih]; rfl
    · rw [if_neg c, if_neg c, List.append_nil, ← ih]
      have hk : 0 < k := by
        rcases Nat.eq_zero_or_pos k with e | e
        · exact absurd (.inl e) c
        · exact e
      have hp := grp_pos beg k hk
      apply List.ext_getElem?
      intro i
      rw [List.getElem?_map, List.getElem?_set]
      split
      · rename_i e
        subst e
        rw [if_pos (by omega), List.getElem?_map]
        have hne := grp_ne beg k ((grp beg k).length - 1) (by omega)
        rw [List.getD_eq_getElem?_getD, List.getElem?_eq_getElem (by omega)] at hne
        simp only [Option.getD_some] at hne
        rw [List.getD_eq_getElem?_getD, List.getElem?_eq_getElem (by omega)]
        simp only [Option.getD_some, Option.map_some, Option.some.injEq]
        obtain ⟨x, xs, e⟩ := List.exists_cons_of_ne_nil hne
        rw [e]; rfl
      · rw [List.getElem?_map]
theorem starts_pos (beg : Nat → Bool) (k : Nat) (h : 0 < k) : (starts beg k)[0]? = some 0 := by
  obtain ⟨m, rfl⟩ : ∃ m, k = m + 1 := ⟨k - 1, by omega⟩
  unfold starts
  rw [List.range_succ_eq_map]; simp
theorem starts_lt (beg : Nat → Bool) (k j : Nat) (h : j ∈ starts beg k) : j < k := by
  unfold starts at h; simp at h; exact h.1
theorem starts_mem (beg : Nat → Bool) (k j : Nat) (hj : 0 < j) : j ∈ starts beg k ↔ j < k ∧ beg j = true := by
  unfold starts; simp; omega
end Go.Proofs.YtfheoplcjeimdaaGreatDoor
