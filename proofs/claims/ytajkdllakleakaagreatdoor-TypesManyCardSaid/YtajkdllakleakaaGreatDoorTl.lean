/- Chapter 16: what the statement says of the tables of package expr. -/
import Derived.Test.YtajkdllakleakaaGreatDoorProg
import Derived.WalkKit
import Derived.OpenShut
import Derived.LaidLaws
import Derived.FnData
namespace Go.Proofs.YtajkdllakleakaaGreatDoor
open Go.RowKit
set_option linter.unusedVariables false
set_option linter.unusedSimpArgs false

theorem laid_at {P : Program} {w : World} : ∀ (l : List (String × DataW Unit)) (ps : List MemPlace), DataW.LaidVars P w l ps → ∀ n d, (n, d) ∈ l → ∃ g t cs fuel p, P.globalNamed n = some g ∧ (P.globals[g]?).map (·.type) = some t ∧ w.var? P n = some cs ∧ DataW.trod (fun _ => ()) P w 0 (fun _ => true) false fuel t cs.toList = some (d, p)
  | [], ps, h, n, d, hm => by cases hm
  | (n', d') :: r, ps, h, n, d, hm => by
    obtain ⟨g, t, cs, fuel, p, q, h1, h2, h3, h4, h5, _⟩ := h
    rcases List.mem_cons.1 hm with e | e
    · cases e; exact ⟨g, t, cs, fuel, p, h1, h2, h3, h4⟩
    · exact laid_at r _ h5 n d e
def smallD (d : DataW Unit) : Bool := match d with
  | .lit (.string l) => decide (l.length ≤ 1000)
  | _ => false
theorem tab_of {P : Program} {w : World} {l : List (String × DataW Unit)} {ps : List MemPlace} {nm : String} {g n : Nat} {t e : TypeId} {ds : List (DataW Unit)} (h : DataW.LaidVars P w l ps) (hm : (nm, .agg ds) ∈ l) (hg : P.globalNamed nm = some g) (ht : (P.globals[g]?).map (·.type) = some t)
    (hu : P.underlying t = some (.array n e)) (he : P.underlying e = some .string) (hc : P.cellsOf e = 1) (hs : ds.all smallD = true) :
    ∀ j, j < n → ∃ s : ByteArray, w.cell? ⟨g, j, none⟩ = some (.string s) ∧ s.size ≤ 1000 := by
  intro j hj
  obtain ⟨g', t', cs, fuel, p, h1, h2, h3, h4⟩ := laid_at _ _ h _ _ hm
  obtain rfl := Option.some.inj (hg.symm.trans h1)
  obtain rfl := Option.some.inj (ht.symm.trans h2)
  obtain ⟨xs, m, _, hx, hlen, hxl, hall⟩ := DataW.trod_array hu h4
  have h5 := hall j hj
  rw [hc, Nat.mul_one] at h5
  have hj' : j < xs.length := by omega
  rw [List.getElem?_eq_getElem hj'] at h5
  obtain ⟨s, e1, e2, _⟩ := DataW.trod_string he h5
  refine ⟨s, ?_, ?_⟩
  · rw [World.var?_cell hg h3 j]
    have : (cs.toList.drop j)[0]? = some (.string s) := by
      cases hd : cs.toList.drop j with
      | nil => rw [hd] at e1; simp at e1
      | cons x r => rw [hd] at e1; simp at e1; simp [e1]
    rw [List.getElem?_drop] at this
    simpa using this
  · have hd : (xs[j]).1 ∈ ds := by
      have : ds = xs.map (·.1) := by
        injection hx with hx _
        injection hx
      rw [this]; exact List.mem_map.2 ⟨_, List.getElem_mem hj', rfl⟩
    have := List.all_eq_true.1 hs _ hd
    rw [e2] at this
    simp only [smallD, decide_eq_true_eq, Array.length_toList] at this
    exact this
/-- A table of texts, as it lies. -/
structure TabW (w : World) (g n : Nat) : Prop where
  lt : g < w.heap.size
  at_ : ∀ j, j < n → ∃ s : ByteArray, w.cell? ⟨g, j, none⟩ = some (.string s) ∧ s.size ≤ 1000
theorem TabW.of {w : World} {g n : Nat} (hn : 0 < n) (h : ∀ j, j < n → ∃ s : ByteArray, w.cell? ⟨g, j, none⟩ = some (.string s) ∧ s.size ≤ 1000) : TabW w g n := by
  refine ⟨?_, h⟩
  obtain ⟨s, hs, _⟩ := h 0 hn
  unfold World.cell? at hs
  cases hb : w.heap[g]? with
  | none => simp [hb] at hs
  | some o => exact (Array.getElem?_eq_some_iff.1 hb).1
theorem TabW.below {w w' : World} {g n : Nat} (h : TabW w g n) (hb : Below w.heap.size w w') : TabW w' g n :=
  ⟨Nat.lt_of_lt_of_le h.lt hb.size, fun j hj => by
    obtain ⟨s, h1, h2⟩ := h.at_ j hj
    exact ⟨s, (hb.cell (p := ⟨g, j, none⟩) h.lt).trans h1, h2⟩⟩
/-- The two tables of package expr. -/
structure Tabs (w : World) : Prop where
  a : TabW w 0 11
  t : TabW w 1 7
theorem Tabs.below {w w' : World} (h : Tabs w) (hb : Below w.heap.size w w') : Tabs w' := ⟨h.a.below hb, h.t.below hb⟩
end Go.Proofs.YtajkdllakleakaaGreatDoor
