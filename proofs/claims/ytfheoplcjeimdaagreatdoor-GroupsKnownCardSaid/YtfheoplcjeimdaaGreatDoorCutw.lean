/- groups.cut: the walk. -/
import Derived.Test.YtfheoplcjeimdaaGreatDoorCut
namespace Go.Proofs.YtfheoplcjeimdaaGreatDoor
open Go.RowKit
set_option linter.unusedVariables false
set_option linter.unusedSimpArgs false

/-- The state behind k rounds: all numbers so far stand in their row, the closed groups are cuts of it. -/
structure CutI (w : World) (base n k : Nat) (ga : Nat) (v : Value) (l : List (Nat × Nat)) : Prop where
  all : w.ownsRow base 3 1 (.slice (some ⟨ga, 0, none⟩) n n) n (ints (rng 0 k ++ List.replicate (n - k) 0))
  rows : w.ownsRow base 35 1 v l.length (l.map fun p => .slice (some ⟨ga, p.1, none⟩) (p.2 - p.1) (p.2 - p.1))

theorem rng_zero_get (k j : Nat) (h : j < k) : (rng 0 k)[j]? = some (j : Int) := by
  simp [rng, List.getElem?_range', h]
theorem CutI.store {w : World} {base n k ga : Nat} {v : Value} {l : List (Nat × Nat)} (h : CutI w base n k ga v l) (hk : k < n) :
    CutI (w.setCell ⟨ga, k, none⟩ (.int .i64 k)) base n (k + 1) ga v l ∧ w.grownBy (w.setCell ⟨ga, k, none⟩ (.int .i64 k)) (some ga) := by
  obtain ⟨h1, h2⟩ := h.all.stored k (.int .i64 k)
  refine ⟨⟨?_, h.rows.kept h2 (own_type_ne h.rows h.all (by decide))⟩, h2⟩
  have e : (ints (rng 0 k ++ List.replicate (n - k) 0)).set k (.int .i64 k) = ints (rng 0 (k + 1) ++ List.replicate (n - (k + 1)) 0) := by
    rw [rng_succ 0 k (Nat.zero_le _)]
    obtain ⟨m, hm⟩ : ∃ m, n - k = m + 1 := ⟨n - k - 1, by omega⟩
    rw [hm, show n - (k + 1) = m by omega]
    have hl : (ints (rng 0 k)).length = k := by rw [ints_length, rng_len]; omega
    rw [ints_append, ints_append, ints_append, List.set_append_right _ _ (by omega), hl, Nat.sub_self]
    simp [ints, List.replicate_succ]
  rw [← e]; exact h1
theorem CutI.reads {w : World} {base n : Nat} {ga : Nat} {v : Value} {l : List (Nat × Nat)} (h : CutI w base n n ga v l) (hl : ∀ p, p ∈ l → p.1 < p.2 ∧ p.2 ≤ n) (hn : 0 < n) : RdII w v (rngs l) := by
  have hlen : (rngs l).length = l.length := by simp [rngs]
  have hga : ga < w.heap.size := (h.all.lt ga rfl).2
  have hcell : ∀ j, j < n → w.cell? ⟨ga, j, none⟩ = some (.int .i64 j) := by
    intro j hj
    rw [h.all.cellAt j (by omega), Nat.sub_self, List.replicate_zero, List.append_nil]
    simp [ints, rng_zero_get n j hj]
  rcases Nat.eq_zero_or_pos l.length with h0 | h0
  · rcases h.rows.2 with ⟨rfl, h1⟩ | ⟨g, cap, cur, rfl, _⟩
    · exact ⟨none, 0, by rw [hlen, h1], fun hp => absurd hp (by omega)⟩
    · exact ⟨_, cap, by rw [hlen], fun hp => absurd hp (by omega)⟩
  · obtain ⟨g, c, rfl, _, hlt⟩ := h.rows.form h0
    refine ⟨_, c, by rw [hlen], fun _ => ⟨g, 0, rfl, hlt, fun j hj => ?_⟩⟩
    have hj' : j < l.length := by omega
    have hp := hl _ (List.getElem_mem hj')
    have hg : (rngs l).getD j [] = rng l[j].1 l[j].2 := by simp [rngs, List.getD_eq_getElem?_getD, List.getElem?_eq_getElem hj']
    rw [hg, rng_len]
    refine ⟨_, l[j].2 - l[j].1, ?_, rng_len _ _, fun _ => ⟨ga, l[j].1, rfl, hga, fun q hq => ?_⟩⟩
    · rw [Nat.zero_add, h.rows.cellAt j (by omega)]
      simp [List.getElem?_eq_getElem hj']
    · rw [hcell _ (by omega)]
      simp [rng, List.getD_eq_getElem?_getD, List.getElem?_range', hq]
end Go.Proofs.YtfheoplcjeimdaaGreatDoor
