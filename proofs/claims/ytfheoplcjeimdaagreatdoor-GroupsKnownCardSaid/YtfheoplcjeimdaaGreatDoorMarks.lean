/- groups.Starting, Ending; chiselref30.Same. -/
import Derived.Test.YtfheoplcjeimdaaGreatDoorCuts
import Derived.Deep.QuietTactic
import Derived.BigQuiet
namespace Go.Proofs.YtfheoplcjeimdaaGreatDoor
open Go.RowKit
set_option linter.unusedVariables false
set_option linter.unusedSimpArgs false

theorem starting1_any (l : List Bool) (A : Option Addr) (n cap B : Nat) (i : Int) (j : Nat) (w : World) (hi : i = j) (hj : j < n) (hn : n ≤ 1000000) (hl : RdBools w A n l) (hc : w.cell? ⟨B, 0, none⟩ = some (.slice A n cap)) :
    Calls Tryz.prog 38 #[.int .i64 i, .pointer (some ⟨B, 0, none⟩)] w fun e w' => e = .returned (.bool (l.getD j false)) ∧ Below w.heap.size w w' := by
  subst hi
  obtain ⟨b, off, rfl, hbl, hr⟩ := hl.2 (by omega)
  have g0 := hr j hj
  clear hr hl
  go_enter Tryz.func38, Tryz.ntmps38
  go_wp2
  go_ret
  exact ⟨ret_bool (by simp), Below.refl _ _⟩

theorem ending1_any (l : List Bool) (A : Option Addr) (n cap B : Nat) (i : Int) (j : Nat) (w : World) (hi : i = j) (h0 : 0 < j) (hj : j < n) (hn : n ≤ 1000000) (hl : RdBools w A n l) (hc : w.cell? ⟨B, 0, none⟩ = some (.slice A n cap)) :
    Calls Tryz.prog 39 #[.int .i64 i, .pointer (some ⟨B, 0, none⟩)] w fun e w' => e = .returned (.bool (l.getD (j - 1) false)) ∧ Below w.heap.size w w' := by
  subst hi
  obtain ⟨j, rfl⟩ : ∃ m, j = m + 1 := ⟨j - 1, by omega⟩
  obtain ⟨b, off, rfl, hbl, hr⟩ := hl.2 (by omega)
  have g0 := hr j (by omega)
  clear hr hl
  go_enter Tryz.func39, Tryz.ntmps39
  go_wp2
  go_ret
  exact ⟨ret_bool (by simp), Below.refl _ _⟩

/-- The groups that a call hands back, to be read. -/
def GivesR (gs : List (List Int)) (w : World) (e : Ending) (w' : World) : Prop := ∃ v, e = .returned v ∧ RdII w' v gs ∧ Below w.heap.size w w'

theorem grp_congr (f g : Nat → Bool) : ∀ n, (∀ j, 0 < j → j < n → f j = g j) → grp f n = grp g n
  | 0, _ => rfl
  | 1, _ => by simp [grp, putL]
  | k + 2, h => by
    show putL (grp f (k + 1)) (k + 1) (f (k + 1)) = putL (grp g (k + 1)) (k + 1) (g (k + 1))
    rw [grp_congr f g (k + 1) (fun j h0 hj => h j h0 (by omega)), h (k + 1) (by omega) (by omega)]

theorem below_box {w W : World} {o : Obj} (h : Below (w.alloc o).heap.size (w.alloc o) W) : Below w.heap.size w W :=
  ((Below.refl _ _).alloc (Nat.le_refl _) o).trans (h.mono (by simp))

theorem starting_any (l : List Bool) (A : Option Addr) (n cap : Nat) (w : World) (hl : RdBools w A n l) (hn : n ≤ 1000000) :
    Calls Tryz.prog 19 #[.slice A n cap] w (GivesR (grp (fun j => l.getD j false) n) w) := by
  have HL := Lib.hid (hl.below ((Below.refl _ _).alloc (Nat.le_refl _) (.cells #[.slice A n cap] 32)))
  clear hl
  have hmf : ∀ (fn : Fn) (first cap : Array Value) (w : World), (Instr.makeFunc fn first cap).run Tryz.prog w = .ok (.func fn first cap) w := fun _ _ _ _ => rfl
  go_enter Tryz.func19, Tryz.ntmps19
  go_wp2_with fail
  refine (cut_any 38 w.heap.size n (fun j => l.getD j false) _ (.inl rfl) hn (fun i j W hi h0 hj hb => ?_)).mono ?_
  · exact starting1_any l A n cap w.heap.size i j W hi hj hn (HL.out.below hb) ((hb.cell (p := ⟨w.heap.size, 0, none⟩) (by simp)).trans (by simp))
  · rintro e w1 ⟨v, rfl, hr, hb⟩
    have HR := Lib.hid hr
    clear hr hmf
    go_wp2
    go_ret
    exact ⟨v, rfl, HR.out, below_box hb⟩

theorem ending_any (l : List Bool) (A : Option Addr) (n cap : Nat) (w : World) (hl : RdBools w A n l) (hn : n ≤ 1000000) :
    Calls Tryz.prog 21 #[.slice A n cap] w (GivesR (grp (fun j => decide (0 < j) && l.getD (j - 1) false) n) w) := by
  have HL := Lib.hid (hl.below ((Below.refl _ _).alloc (Nat.le_refl _) (.cells #[.slice A n cap] 32)))
  clear hl
  have hmf : ∀ (fn : Fn) (first cap : Array Value) (w : World), (Instr.makeFunc fn first cap).run Tryz.prog w = .ok (.func fn first cap) w := fun _ _ _ _ => rfl
  go_enter Tryz.func21, Tryz.ntmps21
  go_wp2_with fail
  refine (cut_any 39 w.heap.size n (fun j => decide (0 < j) && l.getD (j - 1) false) _ (.inr (.inl rfl)) hn (fun i j W hi h0 hj hb => ?_)).mono ?_
  · have := ending1_any l A n cap w.heap.size i j W hi h0 hj hn (HL.out.below hb) ((hb.cell (p := ⟨w.heap.size, 0, none⟩) (by simp)).trans (by simp))
    simpa [h0] using this
  · rintro e w1 ⟨v, rfl, hr, hb⟩
    have HR := Lib.hid hr
    clear hr hmf
    go_wp2
    go_ret
    exact ⟨v, rfl, HR.out, below_box hb⟩
end Go.Proofs.YtfheoplcjeimdaaGreatDoor
