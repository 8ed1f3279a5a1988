/- An argument that is a slice of bools, opened. -/
import Derived.Test.YtfheoplcjeimdaaGreatDoorRst
import Derived.ProofKit
import Derived.OpenShut
import Derived.Deep.Slices
import Derived.Deep.MidRow
namespace Go.Proofs.YtfheoplcjeimdaaGreatDoor
open Go.ChangeShapes Go.WideShapes Go.ChangeAt Go.RowKit Go.Deep
set_option linter.unusedVariables false
set_option linter.unusedSimpArgs false

theorem open_bools {H : Type} {enc : TypeId × Value → H} {P : Program} {W : World} {r : Reach} {b0 : Nat} {t e : TypeId} {v : Value} {d : DataW H} {p : List MemPlace}
    (ht : P.underlying t = some (.slice e)) (he : P.underlying e = some .bool) (hc : P.cellsOf e = 1) (hval : Value.okWide P W r b0 t v) (h : DataW.Trod enc P W 0 (fun _ => true) true t v d p) :
    ∃ A len cap l, v = .slice A len cap ∧ RdBools W A len l ∧ len ≤ 9223372036854775807 := by
  obtain ⟨a0, len0, cap0, rfl⟩ := okWide_slice ht hval
  obtain ⟨fuel, hf⟩ := h
  rcases open_slice1 ht hc hf with ⟨h1, h2⟩ | ⟨a, len, cap, m, n, V, D, Pl, h1, _, hl, hm, hmm, _, hall⟩
  · simp only [Value.cells, List.cons.injEq, and_true] at h1
    cases h1
    exact ⟨none, 0, 0, [], rfl, ⟨rfl, fun h => absurd h (by omega)⟩, by omega⟩
  · simp only [Value.cells, List.cons.injEq, and_true] at h1
    cases h1
    simp only [if_true] at hmm
    subst hmm
    have hb : ∀ i, i < m → ∃ b, V i = .bool b := fun i hi => by
      obtain ⟨b, h, _⟩ := DataW.trod_bool he (hall i hi).2
      simp only [List.cons.injEq, and_true] at h
      exact ⟨b, h⟩
    refine ⟨some a, len0, _, (List.range len0).map fun i => match V i with | .bool b => b | _ => false, rfl, ⟨by simp, fun h0 => ?_⟩, by simp only [maxLen] at hm; omega⟩
    obtain ⟨sb, so, spot⟩ := a
    have hspot : spot = none := by simpa [Addr.add] using World.cell?_spot (hall 0 (by omega)).1
    subst hspot
    refine ⟨sb, so, rfl, ?_, fun j hj => ?_⟩
    · have := (hall 0 (by omega)).1
      rw [Go.Addr.add_mid] at this
      rcases Nat.lt_or_ge sb W.heap.size with k | k
      · exact k
      · unfold World.cell? at this
        simp [Array.getElem?_eq_none k] at this
    · have h1 := (hall j (by omega)).1
      rw [Go.Addr.add_mid] at h1
      obtain ⟨b, hb⟩ := hb j (by omega)
      rw [h1, hb]
      simp [List.getD_eq_getElem?_getD, hj, hb]
end Go.Proofs.YtfheoplcjeimdaaGreatDoor
