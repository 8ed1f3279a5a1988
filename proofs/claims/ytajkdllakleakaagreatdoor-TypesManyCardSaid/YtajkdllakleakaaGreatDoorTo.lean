/- Chapter 16: when a type is in another one, in plain Lean: reflexive and transitive. -/
import Derived.WalkKit
namespace Go.Proofs.YtajkdllakleakaaGreatDoor
set_option linter.unusedVariables false
set_option linter.unusedSimpArgs false

/-- No text. -/
abbrev nS : ByteArray := { data := #[] }
/-- A type: its kind, its kind of atoms, its test's kind and name, how many. -/
structure TyP where
  k : Int
  a : Int
  tk : Int
  nm : ByteArray
  oc : ByteArray
def numB (a : Int) : Bool := decide (a = 3) || decide (a = 4) || decide (a = 5)
def sameT (t u : TyP) : Bool := decide (t.k = u.k) && decide (t.a = u.a) && decide (t.tk = u.tk) && decide (t.nm = u.nm)
def insideB (t u : TyP) : Bool :=
  if sameT t u = true then true
  else if t.k = 1 then false
  else if u.k = 0 then true
  else if t.k = 2 ∧ u.k = 2 then decide (t.a = 3) && decide (u.a = 4)
  else if t.k = 2 ∧ u.k = 4 then numB t.a
  else if t.k = 2 ∨ t.k = 4 then decide (u.k = 3)
  else if t.k = 5 ∧ u.k = 5 then decide (u.tk = 2) || (decide (u.tk = t.tk) && decide (u.nm = nS))
  else false
/-- The least, the greatest, whether there is no greatest. -/
def bndB (t : TyP) : Nat × Nat × Bool :=
  if t.k = 1 then (0, 0, false)
  else if t.oc = { data := #[63] } then (0, 1, false)
  else if t.oc = { data := #[42] } then (0, 0, true)
  else if t.oc = { data := #[43] } then (1, 0, true)
  else (1, 1, false)
def subB (V : TyP → Bool) (t u : TyP) : Bool :=
  V t && V u && (if t.k = 1 then decide ((bndB u).1 = 0) else insideB t u && decide ((bndB u).1 ≤ (bndB t).1) && ((bndB u).2.2 || (!(bndB t).2.2 && decide ((bndB t).2.1 ≤ (bndB u).2.1))))
theorem sameT_iff {t u : TyP} : sameT t u = true ↔ t.k = u.k ∧ t.a = u.a ∧ t.tk = u.tk ∧ t.nm = u.nm := by
  simp only [sameT, Bool.and_eq_true, decide_eq_true_eq, and_assoc]
/-- What 'inside' says, as a proposition. -/
def InsP (t u : TyP) : Prop :=
  (t.k = u.k ∧ t.a = u.a ∧ t.tk = u.tk ∧ t.nm = u.nm) ∨ (t.k ≠ 1 ∧ (u.k = 0 ∨ (t.k = 2 ∧ u.k = 2 ∧ t.a = 3 ∧ u.a = 4) ∨ (t.k = 2 ∧ u.k = 4 ∧ (t.a = 3 ∨ t.a = 4 ∨ t.a = 5)) ∨ ((t.k = 2 ∨ t.k = 4) ∧ u.k = 3) ∨ (t.k = 5 ∧ u.k = 5 ∧ (u.tk = 2 ∨ (u.tk = t.tk ∧ u.nm = nS)))))
theorem inside_iff (t u : TyP) : insideB t u = true ↔ InsP t u := by
  unfold insideB InsP numB
  by_cases h0 : sameT t u = true
  · rw [if_pos h0]
    rw [sameT_iff] at h0
    simp [h0]
  · rw [if_neg h0]
    rw [sameT_iff] at h0
    by_cases h1 : t.k = 1
    · rw [if_pos h1]
      constructor
      · intro h; cases h
      · rintro (h | ⟨h, _⟩)
        · exact absurd h h0
        · exact absurd h1 h
    · rw [if_neg h1]
      by_cases h2 : u.k = 0
      · rw [if_pos h2]; simp [h1, h2]
      · rw [if_neg h2]
        by_cases h3 : t.k = 2 ∧ u.k = 2
        · rw [if_pos h3]; simp only [Bool.and_eq_true, decide_eq_true_eq]; constructor
          · intro h; exact .inr ⟨h1, .inr (.inl ⟨h3.1, h3.2, h.1, h.2⟩)⟩
          · rintro (h | ⟨_, h | ⟨_, _, h⟩ | h | h | h⟩)
            · exact absurd h h0
            · omega
            · exact h
            · omega
            · omega
            · omega
        · rw [if_neg h3]
          by_cases h4 : t.k = 2 ∧ u.k = 4
          · rw [if_pos h4]; simp only [Bool.or_eq_true, decide_eq_true_eq]; constructor
            · intro h; exact .inr ⟨h1, .inr (.inr (.inl ⟨h4.1, h4.2, by omega⟩))⟩
            · rintro (h | ⟨_, h | h | ⟨_, _, h⟩ | h | h⟩)
              · exact absurd h h0
              · omega
              · omega
              · omega
              · omega
              · omega
          · rw [if_neg h4]
            by_cases h5 : t.k = 2 ∨ t.k = 4
            · rw [if_pos h5]; simp only [decide_eq_true_eq]; constructor
              · intro h; exact .inr ⟨h1, .inr (.inr (.inr (.inl ⟨h5, h⟩)))⟩
              · rintro (h | ⟨_, h | h | h | ⟨_, h⟩ | h⟩)
                · exact absurd h h0
                · omega
                · omega
                · omega
                · exact h
                · omega
            · rw [if_neg h5]
              by_cases h6 : t.k = 5 ∧ u.k = 5
              · rw [if_pos h6]; simp only [Bool.or_eq_true, Bool.and_eq_true, decide_eq_true_eq]; constructor
                · intro h; exact .inr ⟨h1, .inr (.inr (.inr (.inr ⟨h6.1, h6.2, h⟩)))⟩
                · rintro (h | ⟨_, h | h | h | h | ⟨_, _, h⟩⟩)
                  · exact absurd h h0
                  · omega
                  · omega
                  · omega
                  · omega
                  · exact h
              · rw [if_neg h6]
                constructor
                · intro h; cases h
                · rintro (h | ⟨_, h | h | h | h | ⟨h7, h8, _⟩⟩)
                  · exact absurd h h0
                  · omega
                  · omega
                  · omega
                  · omega
                  · exact absurd ⟨h7, h8⟩ h6
theorem ins_trans {t u v : TyP} (h1 : InsP t u) (h2 : InsP u v) : InsP t v := by
  rcases h1 with ⟨a1, a2, a3, a4⟩ | ⟨b0, h1⟩
  · rcases h2 with ⟨c1, c2, c3, c4⟩ | ⟨d0, h2⟩
    · exact .inl ⟨a1.trans c1, a2.trans c2, a3.trans c3, a4.trans c4⟩
    · refine .inr ⟨by omega, ?_⟩
      rcases h2 with h | h | h | h | ⟨h, h', h''⟩
      · exact .inl h
      · exact .inr (.inl (by omega))
      · exact .inr (.inr (.inl (by omega)))
      · exact .inr (.inr (.inr (.inl (by omega))))
      · exact .inr (.inr (.inr (.inr ⟨by omega, h', h''.imp id fun x => ⟨by omega, x.2⟩⟩)))
  · rcases h2 with ⟨c1, c2, c3, c4⟩ | ⟨d0, h2⟩
    · refine .inr ⟨b0, ?_⟩
      rcases h1 with h | h | h | h | ⟨h, h', h''⟩
      · exact .inl (by omega)
      · exact .inr (.inl (by omega))
      · exact .inr (.inr (.inl (by omega)))
      · exact .inr (.inr (.inr (.inl (by omega))))
      · exact .inr (.inr (.inr (.inr ⟨h, by omega, h''.imp (fun x => by omega) fun x => ⟨by omega, c4 ▸ x.2⟩⟩)))
    · refine .inr ⟨b0, ?_⟩
      rcases h2 with h | h | h | h | ⟨h, h', h''⟩
      · exact .inl h
      · rcases h1 with g | g | g | g | g
        all_goals omega
      · rcases h1 with g | g | g | g | g
        · omega
        · exact .inr (.inr (.inl (by omega)))
        · omega
        · omega
        · omega
      · rcases h1 with g | g | g | g | g
        · omega
        · exact .inr (.inr (.inr (.inl (by omega))))
        · exact .inr (.inr (.inr (.inl (by omega))))
        · omega
        · omega
      · rcases h1 with g | g | g | g | ⟨g, g', g''⟩
        · omega
        · omega
        · omega
        · omega
        · refine .inr (.inr (.inr (.inr ⟨g, h', ?_⟩)))
          rcases h'' with x | ⟨x, y⟩
          · exact .inl x
          · rcases g'' with z | ⟨z, _⟩
            · exact .inl (by omega)
            · exact .inr ⟨by omega, y⟩
theorem sub_refl (V : TyP → Bool) (t : TyP) (h : V t = true) : subB V t t = true := by
  unfold subB
  rw [h]
  by_cases h1 : t.k = 1
  · rw [if_pos h1]; simp [bndB, h1]
  · rw [if_neg h1]
    have h2 : insideB t t = true := (inside_iff t t).2 (.inl ⟨rfl, rfl, rfl, rfl⟩)
    rw [h2]
    cases hb : (bndB t).2.2 <;> simp
theorem sub_trans (V : TyP → Bool) {t u v : TyP} (h1 : subB V t u = true) (h2 : subB V u v = true) : subB V t v = true := by
  unfold subB at *
  simp only [Bool.and_eq_true] at h1 h2 ⊢
  obtain ⟨⟨vt, vu⟩, h1⟩ := h1
  obtain ⟨⟨_, vv⟩, h2⟩ := h2
  refine ⟨⟨vt, vv⟩, ?_⟩
  by_cases ht : t.k = 1
  · rw [if_pos ht] at h1 ⊢
    have h1 : (bndB u).1 = 0 := by simpa using h1
    by_cases hu : u.k = 1
    · rw [if_pos hu] at h2; exact h2
    · rw [if_neg hu] at h2
      simp only [Bool.and_eq_true, decide_eq_true_eq] at h2 ⊢
      omega
  · rw [if_neg ht] at h1 ⊢
    simp only [Bool.and_eq_true, Bool.or_eq_true, Bool.not_eq_true', decide_eq_true_eq] at h1
    obtain ⟨⟨hi, hl⟩, hm⟩ := h1
    have hu : u.k ≠ 1 := by
      rcases (inside_iff t u).1 hi with h | ⟨_, h⟩
      · omega
      · omega
    rw [if_neg hu] at h2
    simp only [Bool.and_eq_true, Bool.or_eq_true, Bool.not_eq_true', decide_eq_true_eq] at h2 ⊢
    obtain ⟨⟨hi2, hl2⟩, hm2⟩ := h2
    refine ⟨⟨(inside_iff t v).2 (ins_trans ((inside_iff t u).1 hi) ((inside_iff u v).1 hi2)), by omega⟩, ?_⟩
    rcases hm2 with h | ⟨h, h'⟩
    · exact .inl h
    · rcases hm with g | ⟨g, g'⟩
      · rw [g] at h; cases h
      · exact .inr ⟨g, by omega⟩
end Go.Proofs.YtajkdllakleakaaGreatDoor
