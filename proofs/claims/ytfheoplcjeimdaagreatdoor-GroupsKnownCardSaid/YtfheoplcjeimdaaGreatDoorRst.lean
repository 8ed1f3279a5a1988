/- chiselref30.Starting, Ending: groups by marks, item by item. -/
import Derived.Test.YtfheoplcjeimdaaGreatDoorPut
namespace Go.Proofs.YtfheoplcjeimdaaGreatDoor
open Go.RowKit
set_option linter.unusedVariables false
set_option linter.unusedSimpArgs false

/-- One more item: it begins a group, or is added to the last one. -/
def putL (gs : List (List Int)) (k : Nat) (b : Bool) : List (List Int) :=
  if k = 0 ∨ b = true then gs ++ [[(k : Int)]] else gs.set (gs.length - 1) (gs.getD (gs.length - 1) [] ++ [(k : Int)])
/-- The first k items in groups, of which those begin new ones that 'beg' says. -/
def grp (beg : Nat → Bool) : Nat → List (List Int)
  | 0 => []
  | k + 1 => putL (grp beg k) k (beg k)

theorem putL_len (gs : List (List Int)) (k : Nat) (b : Bool) : (putL gs k b).length ≤ gs.length + 1 := by
  unfold putL; split <;> simp
theorem grp_len (beg : Nat → Bool) : ∀ k, (grp beg k).length ≤ k
  | 0 => Nat.le_refl _
  | k + 1 => Nat.le_trans (putL_len _ _ _) (Nat.succ_le_succ (grp_len beg k))
theorem grp_pos (beg : Nat → Bool) : ∀ k, 0 < k → 0 < (grp beg k).length
  | k + 1, _ => by
    show 0 < (putL _ _ _).length
    unfold putL; split
    · simp
    · rename_i h
      have : ¬ k = 0 := fun e => h (.inl e)
      simpa using grp_pos beg k (by omega)
theorem grp_in (beg : Nat → Bool) : ∀ k j, ((grp beg k).getD j []).length ≤ k
  | 0, j => by simp [grp]
  | k + 1, j => by
    have ih := grp_in beg k
    show ((putL _ _ _).getD j []).length ≤ _
    unfold putL; split
    · rcases Nat.lt_or_ge j (grp beg k).length with e | e
      · rw [getD_left _ _ _ _ e]; exact Nat.le_succ_of_le (ih j)
      · rcases Nat.lt_or_ge j ((grp beg k).length + 1) with e2 | e2
        · rw [getD_last _ _ _ _ (by omega)]; simp
        · rw [List.getD_eq_getElem?_getD, List.getElem?_eq_none (by simp; omega)]; simp
    · rw [List.getD_eq_getElem?_getD, List.getElem?_set]
      split
      · split
        · simp only [Option.getD_some, List.length_append, List.length_singleton]
          exact Nat.succ_le_succ (ih _)
        · simp
      · rw [← List.getD_eq_getElem?_getD]; exact Nat.le_succ_of_le (ih j)

theorem put_any (gs : List (List Int)) (vs : List Value) (v : Value) (base k : Nat) (i : Int) (b : Bool) (w : World) (h : OwnII w base v gs vs) (hb : base ≤ w.heap.size) (hi : i = k) (hn : gs.length ≤ 1000000) (hp : 0 < k → 0 < gs.length) (hg : ∀ j, (gs.getD j []).length ≤ 1000000) :
    Calls Tryz.prog 36 #[v, .int .i64 i, .bool b] w (GivesII base (putL gs k b) w) := by
  subst hi
  unfold putL
  by_cases c : k = 0 ∨ b = true
  · rw [if_pos c]
    exact put_new gs vs v base k b w h hb hn (c.elim (fun e => .inl (by omega)) .inr)
  · rw [if_neg c]
    have c1 : ¬ k = 0 := fun e => c (.inl e)
    obtain rfl : b = false := by cases b with | false => rfl | true => exact absurd (.inr rfl) c
    have := hp (by omega)
    exact put_old gs vs v base (gs.length - 1) k w h hb (by omega) hn (hg _) (by omega)

theorem put_grp (beg : Nat → Bool) (k : Nat) (vs : List Value) (v : Value) (base : Nat) (i : Int) (b : Bool) (w : World) (h : OwnII w base v (grp beg k) vs) (hb : base ≤ w.heap.size) (hn : k ≤ 999999) (hi : i = k) (e : b = beg k) :
    Calls Tryz.prog 36 #[v, .int .i64 i, .bool b] w (GivesII base (grp beg (k + 1)) w) := by
  subst e
  exact put_any _ vs v base k i _ w h hb hi (Nat.le_trans (grp_len _ _) (by omega)) (grp_pos _ _) (fun j => Nat.le_trans (grp_in _ _ _) (by omega))

/-- A slice of bools reads as a list. -/
def RdBools (w : World) (A : Option Addr) (n : Nat) (l : List Bool) : Prop :=
  l.length = n ∧ (0 < n → ∃ b off, A = some ⟨b, off, none⟩ ∧ b < w.heap.size ∧ ∀ j, j < n → w.cell? ⟨b, off + j, none⟩ = some (.bool (l.getD j false)))
theorem RdBools.below {w w1 : World} {A : Option Addr} {n : Nat} {l : List Bool} (h : RdBools w A n l) (hb : Below w.heap.size w w1) : RdBools w1 A n l :=
  ⟨h.1, fun hn => by
    obtain ⟨b, off, e, hlt, hc⟩ := h.2 hn
    have hs := hb.size
    exact ⟨b, off, e, by omega, fun j hj => (hb.cell (p := ⟨b, _, none⟩) hlt).trans (hc j hj)⟩⟩

set_option maxRecDepth 100000 in
theorem refStarting_any (l : List Bool) (A : Option Addr) (n cap : Nat) (w : World) (hl : RdBools w A n l) (hn : n ≤ 1000000) :
    Calls Tryz.prog 20 #[.slice A n cap] w (GivesII w.heap.size (grp (fun j => l.getD j false) n) w) := by
  have HL := Lib.hid hl
  clear hl
  go_enter Tryz.func20, Tryz.ntmps20
  go_wp2
  go_loopw [3, 4] (fun v i wr => ∃ (k : Nat) (vs : List Value), k ≤ n ∧ i = .int .i64 k ∧ Hid (OwnII wr w.heap.size v (grp (fun j => l.getD j false) k) vs) ∧ Below w.heap.size w wr) (fun _ i _ => n - (intOf i).toNat)
  case atStart => exact ⟨0, [], Nat.zero_le _, rfl, Lib.hid (OwnII.nil _ _), Below.refl _ _⟩
  case round =>
    obtain ⟨k, vs, hk, rfl, HO, hb⟩ := hrel
    by_cases hlt : k < n
    · obtain ⟨b, off, rfl, hbl, hc⟩ := (HL.out.below hb).2 (by omega)
      have g0 := hc k hlt
      clear hc
      go_wp2_with fail
      have hs := hb.size
      refine (put_grp _ k vs _ w.heap.size _ _ _ HO.out hs (by omega) rfl (by simp)).mono ?_
      rintro e w1 ⟨v1, vs1, rfl, hO1, hb1⟩
      have HO1 := Lib.hid hO1
      clear hO1
      go_wp2
      go_roundw
      case rel => exact ⟨k + 1, vs1, by omega, by go_num, HO1, hb.trans hb1⟩
      case measure => simp [intOf]; omega
    · obtain rfl : k = n := by omega
      go_wp2
      go_ret
      exact ⟨_, _, rfl, HO.out, hb⟩

set_option maxRecDepth 100000 in
theorem refEnding_any (l : List Bool) (A : Option Addr) (n cap : Nat) (w : World) (hl : RdBools w A n l) (hn : n ≤ 1000000) :
    Calls Tryz.prog 22 #[.slice A n cap] w (GivesII w.heap.size (grp (fun j => decide (0 < j) && l.getD (j - 1) false) n) w) := by
  have HL := Lib.hid hl
  clear hl
  go_enter Tryz.func22, Tryz.ntmps22
  go_wp2
  go_loopw [3, 4] (fun v i wr => ∃ (k : Nat) (vs : List Value), k ≤ n ∧ i = .int .i64 k ∧ Hid (OwnII wr w.heap.size v (grp (fun j => decide (0 < j) && l.getD (j - 1) false) k) vs) ∧ Below w.heap.size w wr) (fun _ i _ => n - (intOf i).toNat)
  case atStart => exact ⟨0, [], Nat.zero_le _, rfl, Lib.hid (OwnII.nil _ _), Below.refl _ _⟩
  case round =>
    obtain ⟨k, vs, hk, rfl, HO, hb⟩ := hrel
    by_cases hlt : k < n
    · have hs := Lib.hid hb.size
      rcases Nat.eq_zero_or_pos k with h0 | h0
      · subst h0
        go_wp2_with fail
        refine (put_grp _ 0 vs _ w.heap.size _ _ _ HO.out hs.out (by omega) rfl (by simp)).mono ?_
        rintro e w1 ⟨v1, vs1, rfl, hO1, hb1⟩
        have HO1 := Lib.hid hO1
        clear hO1
        go_wp2
        go_roundw
        case rel => exact ⟨1, vs1, by omega, rfl, HO1, hb.trans hb1⟩
        case measure => simp [intOf]; omega
      · obtain ⟨b, off, rfl, hbl, hc⟩ := (HL.out.below hb).2 (by omega)
        obtain ⟨k, rfl⟩ : ∃ m, k = m + 1 := ⟨k - 1, by omega⟩
        have g0 := hc k (by omega)
        clear hc
        go_wp2_with fail
        refine (put_grp _ (k + 1) vs _ w.heap.size _ _ _ HO.out hs.out (by omega) (by omega) (by simp)).mono ?_
        rintro e w1 ⟨v1, vs1, rfl, hO1, hb1⟩
        have HO1 := Lib.hid hO1
        clear hO1
        go_wp2
        go_roundw
        case rel => exact ⟨k + 2, vs1, by omega, by go_num, HO1, hb.trans hb1⟩
        case measure => simp [intOf]; omega
    · obtain rfl : k = n := by omega
      go_wp2
      go_ret
      exact ⟨_, _, rfl, HO.out, hb⟩
end Go.Proofs.YtfheoplcjeimdaaGreatDoor
