/- chisellaw30.GroupsKnown answers true. -/
import Derived.Test.YtfheoplcjeimdaaGreatDoorKs
namespace Go.Proofs.YtfheoplcjeimdaaGreatDoor
open Go.RowKit
set_option linter.unusedVariables false
set_option linter.unusedSimpArgs false

theorem box_lit {W : World} {b : Nat} {k : Int} {s : ByteArray} {t : TypeId} {fr : Nat × Nat} {u : Value} (hu : u = .pointer (some ⟨b, 0, none⟩)) (h : W.heap[b]? = some (.cells #[.int .i64 k, .string s] t fr)) : KK.holds (.box (k, s)) u W := by
  have hlt := (Array.getElem?_eq_some_iff.1 h).1
  refine ⟨b, 0, hu, hlt, ?_, ?_⟩
  · rw [cell_of_row W b _ _ t fr h]; rfl
  · rw [cell_of_row W b _ _ t fr h]; rfl

set_option maxRecDepth 100000 in
set_option maxHeartbeats 1000000 in
theorem known_any (w : World) : Calls Tryz.prog 10 #[] w fun e w' => e = .returned (.bool true) ∧ Below w.heap.size w w' := by
  go_enter Tryz.func10, Tryz.ntmps10
  go_wp2
  rename_i K hK
  have hb0 : Below w.heap.size w ((((w.alloc (.cells #[.int .i64 3, .string s1_] 38)).alloc (.cells #[.int .i64 4, .string s1_] 38)).alloc (.cells #[.int .i64 99, .string s0_] 38)).alloc (.cells #[.int .i64 5, .string nanS] 38)) :=
    ((((Below.refl _ _).alloc (Nat.le_refl _) _).alloc (by simp) _).alloc (by simp; omega) _).alloc (by simp; omega) _
  have q1 : KK.holds (.box (3, s1_)) (.pointer (some ⟨w.heap.size, 0, none⟩)) _ := box_lit (W := ((((w.alloc (.cells #[.int .i64 3, .string s1_] 38)).alloc (.cells #[.int .i64 4, .string s1_] 38)).alloc (.cells #[.int .i64 99, .string s0_] 38)).alloc (.cells #[.int .i64 5, .string nanS] 38))) rfl (by repeat (first | (apply heap_new; simp; done) | (with_reducible apply heap_past)))
  have q2 : KK.holds (.box (4, s1_)) (.pointer (some ⟨w.heap.size + 1, 0, none⟩)) _ := box_lit (W := ((((w.alloc (.cells #[.int .i64 3, .string s1_] 38)).alloc (.cells #[.int .i64 4, .string s1_] 38)).alloc (.cells #[.int .i64 99, .string s0_] 38)).alloc (.cells #[.int .i64 5, .string nanS] 38))) rfl (by repeat (first | (apply heap_new; simp; done) | (with_reducible apply heap_past)))
  have q3 : KK.holds (.box (99, s0_)) (.pointer (some ⟨w.heap.size + 1 + 1, 0, none⟩)) _ := box_lit (W := ((((w.alloc (.cells #[.int .i64 3, .string s1_] 38)).alloc (.cells #[.int .i64 4, .string s1_] 38)).alloc (.cells #[.int .i64 99, .string s0_] 38)).alloc (.cells #[.int .i64 5, .string nanS] 38))) rfl (by repeat (first | (apply heap_new; simp; done) | (with_reducible apply heap_past)))
  have q4 : KK.holds (.box (5, nanS)) (.pointer (some ⟨w.heap.size + 1 + 1 + 1, 0, none⟩)) _ := box_lit (W := ((((w.alloc (.cells #[.int .i64 3, .string s1_] 38)).alloc (.cells #[.int .i64 4, .string s1_] 38)).alloc (.cells #[.int .i64 99, .string s0_] 38)).alloc (.cells #[.int .i64 5, .string nanS] 38))) rfl (by repeat (first | (apply heap_new; simp; done) | (with_reducible apply heap_past)))
  refine kpregion (x := fun j => match j with | 1 => .pointer (some ⟨w.heap.size, 0, none⟩) | 2 => .pointer (some ⟨w.heap.size + 1, 0, none⟩) | 3 => .pointer (some ⟨w.heap.size + 1 + 1, 0, none⟩) | 4 => .pointer (some ⟨w.heap.size + 1 + 1 + 1, 0, none⟩) | _ => undef) (by kernel_rfl) (kpH q1 q2 q3 q4) rfl rfl ?_ ?_
  · intro j hj
    have : j = 1 ∨ j = 2 ∨ j = 3 ∨ j = 4 := by simpa [kpτ] using hj
    rcases this with rfl | rfl | rfl | rfl <;> rfl
  intro a1 w1 d1 z1 k1 t1 b1
  have B1 := hb0.trans (b1.mono hb0.size)
  have Q1_1 : KK.holds (.box (3, s1_)) (a1.tmps.getD 1 undef) w1 := by
    rw [k1 1 (by decide)]; exact KK.mono _ _ _ _ b1 q1
  have Q1_3 : KK.holds (.box (99, s0_)) (a1.tmps.getD 3 undef) w1 := by
    rw [k1 3 (by decide)]; exact KK.mono _ _ _ _ b1 q3
  have Q1_4 : KK.holds (.box (5, nanS)) (a1.tmps.getD 4 undef) w1 := by
    rw [k1 4 (by decide)]; exact KK.mono _ _ _ _ b1 q4
  have Q1_5 : KK.holds (.ii [[0, 1], [2]]) (a1.tmps.getD 5 undef) w1 := t1 11 (by decide)
  have Q1_6 : KK.holds (.as_ [(3, s1_), (1, s1_)]) (a1.tmps.getD 6 undef) w1 := t1 12 (by decide)
  refine hK _ _ ?_
  refine wp_seq_k fun K2 hK2 => ?_
  refine krregion (x := fun j => a1.tmps.getD j undef) (by kernel_rfl) (krH Q1_1 Q1_3 Q1_4 Q1_5 Q1_6) d1 z1 (fun _ _ => rfl) ?_
  intro a2 w2 d2 z2 k2 t2 b2
  have B2 := B1.trans (b2.mono B1.size)
  have Q2_1 : KK.holds (.box (3, s1_)) (a2.tmps.getD 1 undef) w2 := by
    rw [k2 1 (by decide)]; exact KK.mono _ _ _ _ b2 Q1_1
  have Q2_3 : KK.holds (.box (99, s0_)) (a2.tmps.getD 3 undef) w2 := by
    rw [k2 3 (by decide)]; exact KK.mono _ _ _ _ b2 Q1_3
  have Q2_4 : KK.holds (.box (5, nanS)) (a2.tmps.getD 4 undef) w2 := by
    rw [k2 4 (by decide)]; exact KK.mono _ _ _ _ b2 Q1_4
  have Q2_5 : KK.holds (.ii [[0, 1], [2]]) (a2.tmps.getD 5 undef) w2 := by
    rw [k2 5 (by decide)]; exact KK.mono _ _ _ _ b2 Q1_5
  have Q2_6 : KK.holds (.as_ [(3, s1_), (1, s1_)]) (a2.tmps.getD 6 undef) w2 := by
    rw [k2 6 (by decide)]; exact KK.mono _ _ _ _ b2 Q1_6
  have Q2_7 : KK.holds (.ii [[1]]) (a2.tmps.getD 7 undef) w2 := t2 12 (by decide)
  have Q2_8 : KK.holds (.as_ [(3, s1_)]) (a2.tmps.getD 8 undef) w2 := t2 13 (by decide)
  refine hK2 _ _ ?_
  refine wp_seq_k fun K3 hK3 => ?_
  refine ksregion (x := fun j => a2.tmps.getD j undef) (by kernel_rfl) (ksH Q2_1 Q2_3 Q2_4 Q2_5 Q2_6 Q2_7 Q2_8) d2 z2 (fun _ _ => rfl) ?_
  intro a3 w3 d3 z3 k3 t3 b3
  have B3 := B2.trans (b3.mono B2.size)
  have Q3_1 : KK.holds (.box (3, s1_)) (a3.tmps.getD 1 undef) w3 := by
    rw [k3 1 (by decide)]; exact KK.mono _ _ _ _ b3 Q2_1
  have Q3_3 : KK.holds (.box (99, s0_)) (a3.tmps.getD 3 undef) w3 := by
    rw [k3 3 (by decide)]; exact KK.mono _ _ _ _ b3 Q2_3
  have Q3_5 : KK.holds (.ii [[0, 1], [2]]) (a3.tmps.getD 5 undef) w3 := by
    rw [k3 5 (by decide)]; exact KK.mono _ _ _ _ b3 Q2_5
  have Q3_6 : KK.holds (.as_ [(3, s1_), (1, s1_)]) (a3.tmps.getD 6 undef) w3 := by
    rw [k3 6 (by decide)]; exact KK.mono _ _ _ _ b3 Q2_6
  have Q3_7 : KK.holds (.ii [[1]]) (a3.tmps.getD 7 undef) w3 := by
    rw [k3 7 (by decide)]; exact KK.mono _ _ _ _ b3 Q2_7
  have Q3_8 : KK.holds (.as_ [(3, s1_)]) (a3.tmps.getD 8 undef) w3 := by
    rw [k3 8 (by decide)]; exact KK.mono _ _ _ _ b3 Q2_8
  have Q3_9 : KK.holds (.ii [[0, 1]]) (a3.tmps.getD 9 undef) w3 := t3 9 (by decide)
  refine hK3 _ _ ?_
  refine wp_seq_k fun K4 hK4 => ?_
  refine ktregion (x := fun j => a3.tmps.getD j undef) (by kernel_rfl) (ktH Q3_1 Q3_3 Q3_5 Q3_6 Q3_7 Q3_8 Q3_9) d3 z3 (fun _ _ => rfl) ?_
  intro a4 w4 d4 z4 k4 t4 b4
  have B4 := B3.trans (b4.mono B3.size)
  have Q4_1 : KK.holds (.box (3, s1_)) (a4.tmps.getD 1 undef) w4 := by
    rw [k4 1 (by decide)]; exact KK.mono _ _ _ _ b4 Q3_1
  have Q4_3 : KK.holds (.box (99, s0_)) (a4.tmps.getD 3 undef) w4 := by
    rw [k4 3 (by decide)]; exact KK.mono _ _ _ _ b4 Q3_3
  have Q4_5 : KK.holds (.ii [[0, 1], [2]]) (a4.tmps.getD 5 undef) w4 := by
    rw [k4 5 (by decide)]; exact KK.mono _ _ _ _ b4 Q3_5
  have Q4_6 : KK.holds (.as_ [(3, s1_), (1, s1_)]) (a4.tmps.getD 6 undef) w4 := by
    rw [k4 6 (by decide)]; exact KK.mono _ _ _ _ b4 Q3_6
  have Q4_7 : KK.holds (.ii [[1]]) (a4.tmps.getD 7 undef) w4 := by
    rw [k4 7 (by decide)]; exact KK.mono _ _ _ _ b4 Q3_7
  have Q4_8 : KK.holds (.as_ [(3, s1_)]) (a4.tmps.getD 8 undef) w4 := by
    rw [k4 8 (by decide)]; exact KK.mono _ _ _ _ b4 Q3_8
  have Q4_9 : KK.holds (.ii [[0, 1]]) (a4.tmps.getD 9 undef) w4 := by
    rw [k4 9 (by decide)]; exact KK.mono _ _ _ _ b4 Q3_9
  have Q4_11 : KK.holds (.ii []) (a4.tmps.getD 11 undef) w4 := t4 4 (by decide)
  refine hK4 _ _ ?_
  refine wp_seq_k fun K5 hK5 => ?_
  refine kqregion (x := fun j => a4.tmps.getD j undef) (by kernel_rfl) (kqH Q4_1 Q4_3 Q4_5 Q4_6 Q4_7 Q4_8 Q4_9 Q4_11) d4 z4 (fun _ _ => rfl) ?_
  intro a5 w5 d5 z5 k5 t5 b5
  have B5 := B4.trans (b5.mono B4.size)
  have e0 : a5.tmps.getD 0 undef = .bool true := t5 83 (by decide)
  refine hK5 _ _ ?_
  go_wp2
  refine bodyPost_ret (v := .bool true) ?_ d5 ⟨rfl, B5⟩
  simp [results, Tryz.results10, go_sem, Act.eval, e0]
  rw [Array.getD_eq_getD_getElem?] at e0; exact e0
end Go.Proofs.YtfheoplcjeimdaaGreatDoor
