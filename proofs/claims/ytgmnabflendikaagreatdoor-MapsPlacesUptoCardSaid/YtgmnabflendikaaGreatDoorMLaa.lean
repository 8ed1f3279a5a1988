/- At, Insert, Delete of both packages answer alike, at every item and every number. -/
import Derived.Test.YtgmnabflendikaaGreatDoorMImD
import Derived.Test.YtgmnabflendikaaGreatDoorMImr
import Derived.Test.YtgmnabflendikaaGreatDoorMImR
namespace Go.Proofs.YtgmnabflendikaaGreatDoor
open Go.RowKit
set_option linter.unusedVariables false
set_option linter.unusedSimpArgs false

theorem sq_none {w : World} {d : Nat} {v : Value} {n b : Nat} {f : List IRow} (h : SqR w d v n b f) : SqR w d (.slice none 0 0) 0 0 [] := by
  obtain ⟨d', rfl⟩ := h.pos
  exact ⟨[], RdRows.nil w 8 none 0 ⟨fun _ => rfl, Nat.le_refl _, by simp [maxLen]⟩, .nil⟩
theorem sq_form {w : World} {d : Nat} {v : Value} {n b : Nat} {f : List IRow} (h : SqR w d v n b f) : ∃ A m c, v = .slice A m c ∧ m ≤ n := by
  obtain ⟨d', rfl⟩ := h.pos
  obtain ⟨l, h1, h2⟩ := h
  obtain ⟨A, c, rfl, _⟩ := RdI.form h1
  refine ⟨A, _, c, rfl, ?_⟩
  exact h2.len fun x n b f hx => by
    rcases hx.2 with H | H | ⟨_, _, _, _, _, _, _, H⟩ | ⟨_, _, _, _, _, H⟩ | ⟨_, _, H | ⟨_, _, _, _, _, _, _, _, _, _, _, H⟩⟩ | H
    · omega
    · omega
    · omega
    · omega
    · omega
    · omega
    · omega
/-- The members of an item that is an array. -/
theorem arr_open {w : World} {d : Nat} {r : IRow} {n b : Nat} {f : List IRow} (h : ItP w (SqR w d) r n b f) (hk : r.k = 3) : ∃ ms n', RdM w ms r.ms ∧ MemS w d ms n' b f ∧ n = 1 + n' := by
  rcases h.2 with H | H | H | ⟨_, ms, n', h1, h2, h3⟩ | H | H
  · exact absurd H.1 (by omega)
  · exact absurd H.1 (by omega)
  · exact absurd H.1 (by omega)
  · exact ⟨ms, n', h1, h2, h3⟩
  · exact absurd H.1 (by omega)
  · exact absurd H.1 (by omega)
theorem mem_one {w : World} {d : Nat} {ms : List Value} {n b : Nat} {f : List IRow} (h : MemS w d ms n b f) : ∀ m, m ∈ ms → m.oneCell' = true := fun m hm => by
  obtain ⟨_, _, _, ⟨_, h1, _⟩, _⟩ := h.mem m hm
  exact h1.one
theorem mem_sq {w : World} {d : Nat} {ms : List Value} {n b : Nat} {f : List IRow} (h : MemS w d ms n b f) : ∀ m, m ∈ ms → SqD w d m := fun m hm => by
  obtain ⟨_, _, _, ⟨_, h1, _⟩, _⟩ := h.mem m hm
  exact ⟨_, _, _, h1⟩
theorem mem_len {w : World} {d : Nat} {ms : List Value} {n b : Nat} {f : List IRow} (h : MemS w d ms n b f) : ms.length ≤ n := h.len fun x n b f ⟨n', _, e⟩ => by omega
theorem mem_ins {w : World} {d : Nat} {ms : List Value} {n b : Nat} {f : List IRow} (h : MemS w d ms n b f) (p : Nat) {v : Value} {nv bv : Nat} {fv : List IRow} (hv : SqR w d v nv bv fv) : ∃ f', MemS w d (insL ms p v) (n + (1 + nv)) (b + bv) f' := by
  rw [← List.take_append_drop p ms] at h
  obtain ⟨n1, b1, f1, n2, b2, f2, h1, h2, rfl, rfl, rfl⟩ := SumR.split _ _ h
  have P : ∃ n', SqR w d v n' bv fv ∧ 1 + nv = 1 + n' := ⟨nv, hv, rfl⟩
  have := SumR.append h1 (SumR.cons P h2)
  refine ⟨f1 ++ (fv ++ f2), ?_⟩
  rw [show n1 + n2 + (1 + nv) = n1 + (1 + nv + n2) by omega, show b1 + b2 + bv = b1 + (bv + b2) by omega]
  exact this
theorem chk_pos {i more : Int} {m : Nat} (h : chkE 3 i more m = 0) : ¬ i < 1 ∧ ¬ (m : Int) < i - more := by
  constructor
  · intro h1; rw [chkE_lo h1] at h; cases h
  · intro h1; rw [chkE_hi h1] at h; cases h
/-- At of both packages. -/
theorem at_both {w : World} {d : Nat} {r : IRow} {n b : Nat} {f : List IRow} (h : ItP w (SqR w d) r n b f) {v : Value} {nv bv : Nat} {fv : List IRow} (hv : SqR w d v nv bv fv) (i : Int) (hi : i64B i) :
    ∃ V c0, SqD w d V ∧ (∀ W, Below w.heap.size w W → Calls Tryz.prog 7 #[itV r, .int .i64 i] W fun e W' => e = .returned (.tuple #[V, .int .i64 c0]) ∧ Below W.heap.size W W') ∧ (∀ W, Below w.heap.size w W → Calls Tryz.prog 8 #[itV r, .int .i64 i] W fun e W' => e = .returned (.tuple #[V, .int .i64 c0]) ∧ Below W.heap.size W W') := by
  by_cases hk : r.k = 3
  · obtain ⟨ms, n', h1, h2, _⟩ := arr_open h hk
    refine ⟨atV r.k i ms.length ms, chkE r.k i 0 ms.length, ?_, fun W hW => at_any r i ms W h.1 (fun _ => RdRows.below h1 hW) hi, fun W hW => refAt_any r i ms W h.1 (fun _ => RdRows.below h1 hW) hi⟩
    unfold atV
    by_cases hc : chkE r.k i 0 ms.length = 0
    · rw [if_pos hc]
      rw [hk] at hc
      obtain ⟨c1, c2⟩ := chk_pos hc
      have hlt : i.toNat - 1 < ms.length := by omega
      rw [List.getD_eq_getElem?_getD, List.getElem?_eq_getElem hlt]
      exact mem_sq h2 _ (List.getElem_mem hlt)
    · rw [if_neg hc]
      exact ⟨_, _, _, sq_none hv⟩
  · refine ⟨atV r.k i 0 [], chkE r.k i 0 0, ?_, fun W hW => at_any r i [] W h.1 (fun e => absurd e hk) hi, fun W hW => refAt_any r i [] W h.1 (fun e => absurd e hk) hi⟩
    unfold atV
    rw [if_neg (by rw [chkE_no hk]; decide)]
    exact ⟨_, _, _, sq_none hv⟩
/-- Insert of both packages. -/
theorem insert_both {w : World} {d : Nat} {r : IRow} {n b : Nat} {f : List IRow} (h : ItP w (SqR w d) r n b f) {v : Value} {nv bv : Nat} {fv : List IRow} (hv : SqR w d v nv bv fv) (hn : n + nv ≤ 1000) (hb : b + bv ≤ 100000) (i : Int) (hi : i64B i) :
    ∃ c0 M, (c0 = 0 → ∀ p, p ∈ M → SqD w d p) ∧ (∀ W, Below w.heap.size w W → Calls Tryz.prog 9 #[itV r, .int .i64 i, v] W (AOP c0 M W)) ∧ (∀ W, Below w.heap.size w W → Calls Tryz.prog 10 #[itV r, .int .i64 i, v] W (AOP c0 M W)) := by
  obtain ⟨Av, mv, cv, rfl, hmv⟩ := sq_form hv
  by_cases hk : r.k = 3
  · obtain ⟨ms, n', h1, h2, rfl⟩ := arr_open h hk
    have hlen := mem_len h2
    obtain ⟨A, c, hA, hm⟩ := h1.form
    by_cases hc : chkE r.k i 1 ms.length = 0
    · have hc' := hc
      rw [hk] at hc'
      obtain ⟨c1, c2⟩ := chk_pos hc'
      obtain ⟨p, rfl⟩ : ∃ p : Nat, i = (p : Int) + 1 := ⟨i.toNat - 1, by omega⟩
      obtain ⟨f', hs⟩ := mem_ins h2 p hv
      have ho : ovB (1 + (n' + (1 + nv))) (b + bv) = false := by simp only [ovB, Bool.or_eq_false_iff, decide_eq_false_iff_not]; omega
      refine ⟨0, insL ms p (.slice Av mv cv), fun _ => mem_sq hs, fun W hW => ?_, fun W hW => ?_⟩
      · exact insertAt_any r ms p Av mv cv W (RdRows.below h1 hW) h.1 hk (mem_one h2) (by omega) (by omega) (by omega) (MemS.below hW hs) ho
      · exact refInsertAt_any r ms p Av mv cv W (RdRows.below h1 hW) h.1 hk (mem_one h2) (by omega) (by omega) (by omega) (MemS.below hW hs) ho
    · exact ⟨_, [], fun e => absurd e hc, fun W hW => insertBad_any r i A ms.length c Av mv cv [] W h.1 (fun _ => hA) hi hm hc, fun W hW => refInsertBad_any r i A ms.length c Av mv cv [] W h.1 (fun _ => hA) hi hm hc⟩
  · have hc : chkE r.k i 1 0 ≠ 0 := by rw [chkE_no hk]; decide
    exact ⟨_, [], fun e => absurd e hc, fun W hW => insertBad_any r i none 0 0 Av mv cv [] W h.1 (fun e => absurd e hk) hi (by simp [maxLen]) hc, fun W hW => refInsertBad_any r i none 0 0 Av mv cv [] W h.1 (fun e => absurd e hk) hi (by simp [maxLen]) hc⟩
/-- Delete of both packages. -/
theorem delete_both {w : World} {d : Nat} {r : IRow} {n b : Nat} {f : List IRow} (h : ItP w (SqR w d) r n b f) (hn : n ≤ 1000) (i : Int) (hi : i64B i) :
    ∃ c0 M, (c0 = 0 → ∀ p, p ∈ M → SqD w d p) ∧ (∀ W, Below w.heap.size w W → Calls Tryz.prog 11 #[itV r, .int .i64 i] W (AOP c0 M W)) ∧ (∀ W, Below w.heap.size w W → Calls Tryz.prog 12 #[itV r, .int .i64 i] W (AOP c0 M W)) := by
  by_cases hk : r.k = 3
  · obtain ⟨ms, n', h1, h2, rfl⟩ := arr_open h hk
    have hlen := mem_len h2
    obtain ⟨A, c, hA, hm⟩ := h1.form
    by_cases hc : chkE r.k i 0 ms.length = 0
    · have hc' := hc
      rw [hk] at hc'
      obtain ⟨c1, c2⟩ := chk_pos hc'
      obtain ⟨p, rfl⟩ : ∃ p : Nat, i = (p : Int) + 1 := ⟨i.toNat - 1, by omega⟩
      refine ⟨0, cutL ms p, fun _ q hq => mem_sq h2 q ?_, fun W hW => ?_, fun W hW => ?_⟩
      · unfold cutL at hq
        rcases List.mem_append.1 hq with hq | hq
        · exact List.mem_of_mem_take hq
        · exact List.mem_of_mem_drop hq
      · exact deleteAt_any r ms p W (RdRows.below h1 hW) h.1 hk (mem_one h2) (by omega) (by omega)
      · exact refDeleteAt_any r ms p W (RdRows.below h1 hW) h.1 hk (mem_one h2) (by omega) (by omega)
    · exact ⟨_, [], fun e => absurd e hc, fun W hW => deleteBad_any r i A ms.length c [] W h.1 (fun _ => hA) hi hm hc, fun W hW => refDeleteBad_any r i ms [] W h.1 (fun _ => RdRows.below h1 hW) hi hc⟩
  · have hc : chkE r.k i 0 0 ≠ 0 := by rw [chkE_no hk]; decide
    exact ⟨_, [], fun e => absurd e hc, fun W hW => deleteBad_any r i none 0 0 [] W h.1 (fun e => absurd e hk) hi (by simp [maxLen]) hc, fun W hW => refDeleteBad_any r i [] [] W h.1 (fun e => absurd e hk) hi hc⟩
end Go.Proofs.YtgmnabflendikaaGreatDoor
