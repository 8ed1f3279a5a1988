/- chisellaw30.works: the chapter's examples: up to the test. -/
import Derived.Test.YtfheoplcjeimdaaGreatDoorByw
import Derived.Test.YtfheoplcjeimdaaGreatDoorOrd
namespace Go.Proofs.YtfheoplcjeimdaaGreatDoor
open Go.RowKit
set_option linter.unusedVariables false
set_option linter.unusedSimpArgs false

theorem word_any (s : ByteArray) (w : World) : Calls Tryz.prog 26 #[.string s] w fun e w' => e = .returned (.agg #[.int .i64 1, .string s]) ∧ w' = w.alloc (.cells #[.int .i64 1, .string s] 38) := by
  go_enter Tryz.func26, Tryz.ntmps26
  go_wp2
  exact bodyPost_ret (v := .agg #[.int .i64 1, .string s]) (by simp [results, Tryz.results26, go_sem]) rfl ⟨rfl, rfl⟩

/-- What a literal's block reads as. -/
theorem rdAtoms_lit {W : World} {b : Nat} {cs : Array Value} {t : TypeId} {fr : Nat × Nat} (l : List Atm) (n : Nat) (hn : l.length = n) (h : W.heap[b]? = some (.cells cs t fr)) (hc : cs.toList = flatA l) (hl : l.length ≤ 1000) : RdAtoms W (some ⟨b, 0, none⟩) n l := by
  subst hn
  have hlt := (Array.getElem?_eq_some_iff.1 h).1
  refine ⟨rfl, by omega, fun _ => ⟨b, 0, rfl, hlt, fun j hj => ?_⟩⟩
  obtain ⟨h1, h2⟩ := flatA_get l j hj
  rw [← hc] at h1 h2
  constructor
  · rw [cell_of_row W b _ cs t fr h, Nat.zero_add]; simpa using h1
  · rw [cell_of_row W b _ cs t fr h, Nat.zero_add]; simpa using h2
theorem rdAA_lit {W : World} {b : Nat} {cs : Array Value} {t : TypeId} {fr : Nat × Nat} (ls : List (List Atm)) (n : Nat) (hn : ls.length = n) (h : W.heap[b]? = some (.cells cs t fr)) (hc : cs.size = n)
    (hin : ∀ j, j < n → ∃ Aj cj, cs[j]? = some (.slice Aj (ls.getD j []).length cj) ∧ RdAtoms W Aj (ls.getD j []).length (ls.getD j [])) : RdAA W (some ⟨b, 0, none⟩) n ls := by
  have hlt := (Array.getElem?_eq_some_iff.1 h).1
  refine ⟨hn, fun _ => ⟨b, 0, rfl, hlt, fun j hj => ?_⟩⟩
  obtain ⟨Aj, cj, h1, h2⟩ := hin j hj
  exact ⟨Aj, cj, by rw [cell_of_row W b _ cs t fr h, Nat.zero_add]; exact h1, h2⟩

abbrev sa_ : ByteArray := { data := #[97] }
abbrev sb_ : ByteArray := { data := #[98] }
def kA : List (List Atm) := [[(1, sa_)], [(1, sb_), (1, sa_), (1, sa_)], [], [(1, sb_)]]
def kB : List (List Atm) := [[(1, sa_)], [(1, sa_)], [(1, sb_)], [(1, sa_)], [], []]
def vaS : Int → ByteArray → Bool := fun _ s => isTextB s
def saS : Int → ByteArray → Int → ByteArray → Bool := fun _ s _ s' => s.toList == s'.toList

theorem by_kA : byF vaS saS kA 4 = ([[0, 1], [1, 3]], [(1, sa_), (1, sb_)]) := by decide +kernel
theorem adj_kB : grp (fun j => !eqAA vaS saS (kB.getD (j - 1) []) (kB.getD j [])) 6 = [[0, 1], [2], [3], [4, 5]] := by decide +kernel

theorem ReadsA_of {w : World} {base : Nat} {v u : Value} {st : List (List Int) × List Atm} (h : ByM w base v u st) (hl : st.2.length ≤ 1000000) : RdII w v st.1 ∧ ∃ A c, u = .slice A st.2.length c ∧ RdAtoms w A st.2.length st.2 :=
  ⟨h.gs.elim fun _ k => k.reads, h.at_.reads hl⟩

end Go.Proofs.YtfheoplcjeimdaaGreatDoor
