/- Keys of the map of classes: the literals of the classes of 1, 2, 3. -/
import Derived.Maps.Views
import Derived.Maps.OwnOps
import Derived.DeepKeys4
import Derived.Test.YtahidclhplmkiaaGreatDoorM5
import Derived.Test.YtahidclhplmkiaaGreatDoorMVi
namespace Go.Proofs.YtahidclhplmkiaaGreatDoor
open Go.RowKit Go.WideMaps
set_option linter.unusedVariables false

theorem law_cls : Maps.Keyed Tryz.prog 69 := Maps.Keyed.of_law (deep_law_laid (by kernel_rfl) (m := 2) (by omega) (of_decide_eq_true (by kernel_rfl)) (by kernel_rfl) (by rw [Tryz.underlying69]))
theorem zero_int (w : World) : (zeroValue 3).run Tryz.prog w = .ok (.int .i64 0) w := by kernel_rfl
/-- The literal of a class. -/
noncomputable def klit (s : ByteArray) : Lit := (keyOf Tryz.prog 69 (clsV s)).getD .nil
def DS (s : ByteArray) : Prop := s = d1 ∨ s = d2 ∨ s = d3
theorem klit_is {s : ByteArray} (h : DS s) : keyOf Tryz.prog 69 (clsV s) = some (klit s) := by
  have key : (keyOf Tryz.prog 69 (clsV s)).isSome = true := by
    rcases h with rfl | rfl | rfl
    all_goals kernel_rfl
  unfold klit
  revert key
  cases keyOf Tryz.prog 69 (clsV s) with
  | none => intro h; cases h
  | some x => intro _; rfl
theorem klit_lit {s : ByteArray} (h : DS s) : WideAt.IsKeyLit (klit s) := by
  have key := klit_is h
  generalize klit s = x at key ⊢
  exact @Maps.Keyed.key _ _ law_cls _ _ key
theorem clsV_inj {s s' : ByteArray} (h : clsV s = clsV s') : s = s' := by
  simp only [clsV, Value.agg.injEq] at h
  simpa using h
set_option maxRecDepth 100000 in
theorem klit_ne {s s' : ByteArray} (h : DS s) (h' : DS s') (hne : s ≠ s') : klit s ≠ klit s' := fun e =>
  hne (clsV_inj (by
    have h1 := klit_is h
    have h2 := klit_is h'
    rw [← e] at h2
    generalize klit s = x at h1 h2
    exact @Maps.Keyed.inj _ _ law_cls _ _ _ h1 h2))
/-- The map holds nothing for the keys of these entries. -/
def Free (D : DataW Unit) (l : List PRow) : Prop := Maps.IsMap D ∧ ∀ p, p ∈ l → D.atKey (klit p.tx) (.lit (.int .i64 0)) = .lit (.int .i64 0)
theorem Free.empty (l : List PRow) : Free (.map []) l := ⟨⟨[], rfl⟩, fun p _ => rfl⟩
theorem Free.put {D : DataW Unit} {p : PRow} {l : List PRow} (h : Free D (p :: l)) (hk : ∀ q, q ∈ p :: l → DS q.tx) (hn : ∀ q, q ∈ l → q.tx ≠ p.tx) (d : DataW Unit) : Free (D.put (klit p.tx) d) l := by
  obtain ⟨⟨es, rfl⟩, h⟩ := h
  refine ⟨⟨_, rfl⟩, fun q hq => ?_⟩
  rw [Maps.atKey_put_other (klit_ne (hk q (List.mem_cons_of_mem _ hq)) (hk p (List.mem_cons_self ..)) (hn q hq))]
  exact h q (List.mem_cons_of_mem _ hq)
/-- A map below what is written stays. -/
theorem map_below {P : Program} {k : TypeId} {R : Value → Option (DataW Unit × List MemPlace)} {B b n : Nat} {w w' : World} {D : DataW Unit} (h : w.ownsMap P k R b n D) (hB : Below B w w') (hb : b < B) : w'.ownsMap P k R b n D := by
  obtain ⟨es, clock, hc, hr⟩ := h
  exact ⟨es, clock, (hB.block b hb).trans hc, hr⟩
/-- The keys of a list of entries are distinct. -/
def Dist (l : List PRow) : Prop := l.Pairwise fun p q => q.tx ≠ p.tx
end Go.Proofs.YtahidclhplmkiaaGreatDoor
