/- Values that are strings: when they are valid, and the same key. -/
import Derived.Test.YtfheoplcjeimdaaGreatDoorTxt
namespace Go.Proofs.YtfheoplcjeimdaaGreatDoor
open Go.RowKit
set_option linter.unusedVariables false
set_option linter.unusedSimpArgs false

def atomV (k : Int) (s : ByteArray) : Value := .agg #[.int .i64 k, .string s]

theorem bcell {W w1 : World} (hb : Below W.heap.size W w1) : (∀ b o, b < W.heap.size → w1.cell? ⟨b, o, none⟩ = W.cell? ⟨b, o, none⟩) ∧ (∀ b o, b < W.heap.size → w1.frozen? ⟨b, o, none⟩ = W.frozen? ⟨b, o, none⟩) :=
  ⟨fun b o h => hb.cell (p := ⟨b, o, none⟩) h, fun b o h => hb.frozen (p := ⟨b, o, none⟩) h⟩

theorem below_iter {B : Nat} {a w : World} (h : Below B a w) (hB : B ≤ w.heap.size) (s : ByteArray) (p : Nat) : Below B a (w.iter s p) := h.alloc hB _

theorem valid_str (k : Int) (s : ByteArray) (w : World) (hk : strB k = true) (hs : s.size ≤ 9223372036854775807) :
    Calls Tryz.prog 23 #[.agg #[.int .i64 k, .string s]] w fun e w' => e = .returned (.bool (isTextB s)) ∧ Below w.heap.size w w' := by
  go_enter Tryz.func23, Tryz.ntmps23
  go_wp2_with (first | (go_at_call 40; refine (isString_any _ _).mono ?_; rintro e w' ⟨rfl, rfl⟩) | (go_at_call 41; refine (isText_any _ _ hs).mono ?_; rintro e w' ⟨rfl, pos, rfl⟩))
  go_ret
  exact ⟨rfl, below_iter (((Below.refl _ _).alloc (Nat.le_refl _) _)) (by simp) _ _⟩

theorem same_str (k k' : Int) (s s' : ByteArray) (w : World) (hk : strB k = true) (hk' : strB k' = true) (hs : s.size ≤ 9223372036854775807) (hs' : s'.size ≤ 9223372036854775807)
    (ht : isTextB s = true) (ht' : isTextB s' = true) :
    Calls Tryz.prog 24 #[.agg #[.int .i64 k, .string s], .agg #[.int .i64 k', .string s']] w fun e w' => e = .returned (.bool (s.toList == s'.toList)) ∧ Below w.heap.size w w' := by
  have h5 : (k == 5) = false := by simp [strB] at hk; rcases hk with h | h <;> subst h <;> rfl
  go_enter Tryz.func24, Tryz.ntmps24
  go_wp2_with fail
  refine (valid_str k s _ hk hs).mono ?_
  rintro e w1 ⟨rfl, hb1⟩
  obtain ⟨hc, hf⟩ := bcell hb1
  have hz : w.heap.size + 1 < w1.heap.size := by have := hb1.size; simp at this; omega
  go_wp2_with fail
  refine (valid_str k' s' _ hk' hs').mono ?_
  rintro e w2 ⟨rfl, hb2⟩
  have hb12 : Below (w.heap.size + 2) w1 w2 := hb2.mono (by omega)
  have hc2 : ∀ b o, b < w.heap.size + 2 → w2.cell? ⟨b, o, none⟩ = w1.cell? ⟨b, o, none⟩ := fun b o h => hb12.cell (p := ⟨b, o, none⟩) h
  have hz2 : w.heap.size + 1 < w2.heap.size := by have := hb2.size; omega
  go_wp2_with (go_at_call 40; refine (isString_any _ _).mono ?_; rintro e w' ⟨rfl, rfl⟩)
  go_ret
  exact ⟨rfl, (((((Below.refl _ _).alloc (Nat.le_refl _) _).alloc (by simp) _).trans (hb1.mono (by simp; omega))).trans (hb2.mono (by omega)))⟩

/-- What is asked of package atom: whether values are valid, and the same key, of those of S, in worlds that keep I. -/
structure AtomC (S : Int → ByteArray → Prop) (I : World → Prop) (va : Int → ByteArray → Bool) (sa : Int → ByteArray → Int → ByteArray → Bool) : Prop where
  valid : ∀ k s w, S k s → I w → Calls Tryz.prog 23 #[.agg #[.int .i64 k, .string s]] w fun e w' => e = .returned (.bool (va k s)) ∧ Below w.heap.size w w'
  same : ∀ k s k' s' w, S k s → S k' s' → va k s = true → va k' s' = true → I w →
    Calls Tryz.prog 24 #[.agg #[.int .i64 k, .string s], .agg #[.int .i64 k', .string s']] w fun e w' => e = .returned (.bool (sa k s k' s')) ∧ Below w.heap.size w w'
  inv : ∀ w w', I w → Below w.heap.size w w' → I w'

theorem atomC_str : AtomC (fun k s => strB k = true ∧ s.size ≤ 9223372036854775807) (fun _ => True) (fun _ s => isTextB s) (fun _ s _ s' => s.toList == s'.toList) :=
  ⟨fun k s w h _ => valid_str k s w h.1 h.2, fun k s k' s' w h h' ht ht' _ => same_str k k' s s' w h.1 h'.1 h.2 h'.2 ht ht', fun _ _ _ _ => trivial⟩

section
variable {S : Int → ByteArray → Prop} {I : World → Prop} {va : Int → ByteArray → Bool} {sa : Int → ByteArray → Int → ByteArray → Bool}

def gsB (va : Int → ByteArray → Bool) (sa : Int → ByteArray → Int → ByteArray → Bool) (k : Int) (s : ByteArray) (k' : Int) (s' : ByteArray) : Bool := va k s && va k' s' && sa k s k' s'

theorem gsame_any (C : AtomC S I va sa) (k k' : Int) (s s' : ByteArray) (w : World) (h : S k s) (h' : S k' s') (hI : I w) :
    Calls Tryz.prog 29 #[.agg #[.int .i64 k, .string s], .agg #[.int .i64 k', .string s']] w fun e w' => e = .returned (.bool (gsB va sa k s k' s')) ∧ Below w.heap.size w w' := by
  have C' := Lib.hid C
  clear C
  have H := Lib.hid (And.intro h h')
  clear h h'
  have HI := Lib.hid hI
  clear hI
  go_enter Tryz.func29, Tryz.ntmps29
  go_wp2_with fail
  have HI1 := Lib.hid (C'.out.inv _ _ HI.out ((((Below.refl _ _).alloc (Nat.le_refl _) (.cells #[.int .i64 k, .string s] 38)).alloc (by simp) (.cells #[.int .i64 k', .string s'] 38))))
  refine (C'.out.valid k s _ H.out.1 HI1.out).mono ?_
  rintro e w1 ⟨rfl, hb1⟩
  have HI2 := Lib.hid (C'.out.inv _ _ HI1.out hb1)
  obtain ⟨hc, hf⟩ := bcell hb1
  have hz : w.heap.size + 1 < w1.heap.size := by have := hb1.size; simp at this; omega
  by_cases v1 : va k s = true
  · go_wp2_with fail
    refine (C'.out.valid k' s' _ H.out.2 HI2.out).mono ?_
    rintro e w2 ⟨rfl, hb2⟩
    have hb12 : Below (w.heap.size + 2) w1 w2 := hb2.mono (by omega)
    have hc2 : ∀ b o, b < w.heap.size + 2 → w2.cell? ⟨b, o, none⟩ = w1.cell? ⟨b, o, none⟩ := fun b o h => hb12.cell (p := ⟨b, o, none⟩) h
    have hz2 : w.heap.size + 1 < w2.heap.size := by have := hb2.size; omega
    have HI3 := Lib.hid (C'.out.inv _ _ HI2.out hb2)
    by_cases v2 : va k' s' = true
    · go_wp2_with fail
      refine (C'.out.same k s k' s' _ H.out.1 H.out.2 v1 v2 HI3.out).mono ?_
      rintro e w3 ⟨rfl, hb3⟩
      go_wp2
      go_ret
      exact ⟨ret_bool (by simp [gsB, v1, v2]), ((((((Below.refl _ _).alloc (Nat.le_refl _) _).alloc (by simp) _).trans (hb1.mono (by simp; omega))).trans (hb2.mono (by omega))).trans (hb3.mono (by omega)))⟩
    · go_wp2
      go_ret
      exact ⟨ret_bool (by simp [gsB, v1, v2]), ((((((Below.refl _ _).alloc (Nat.le_refl _) _).alloc (by simp) _).trans (hb1.mono (by simp; omega))).trans (hb2.mono (by omega))))⟩
  · go_wp2
    go_ret
    exact ⟨ret_bool (by simp [gsB, v1]), (((((Below.refl _ _).alloc (Nat.le_refl _) _).alloc (by simp) _).trans (hb1.mono (by simp; omega))))⟩
end
end Go.Proofs.YtfheoplcjeimdaaGreatDoor
