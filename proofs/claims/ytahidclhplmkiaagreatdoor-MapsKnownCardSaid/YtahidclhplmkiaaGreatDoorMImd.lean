/- slices.Delete of one member of a row of the call's own: the walk. -/
import Derived.Test.YtahidclhplmkiaaGreatDoorM9
import Derived.Test.YtahidclhplmkiaaGreatDoorM4
import Derived.Deep.MidRow
namespace Go.Proofs.YtahidclhplmkiaaGreatDoor
open Go.RowKit
set_option linter.unusedVariables false
set_option linter.unusedSimpArgs false

/-- clear of one member. -/
theorem run_clear_one (P : Program) (w : World) (t e ty : TypeId) (a0 : Value) (ht : P.underlying t = some (.slice e)) (hv : ∀ w, (zeroValue e).run P w = .ok a0 w) (hz : a0.cells = #[a0]) (h1 : a0.oneCell' = true) (b o c : Nat)
    (hc : (w.cell? ⟨b, o, none⟩).isSome = true) (hf : w.frozen? ⟨b, o, none⟩ = false) :
    (Builtin.clear_ #[t] ty #[.slice (some ⟨b, o, none⟩) 1 c]).run P w = .ok (.tuple #[]) (w.setCells b o [a0]) := by
  have hzc : (Builtin.zeroCells a0.cells 1).toList = [a0] := by
    rw [hz]
    simp [Builtin.zeroCells]
  have hst := run_storeCells_cells (P := P) b o [a0] 0 w (fun j hj => by
    obtain rfl : j = 0 := by simp at hj; omega
    simpa using hc) (fun j hj => by
    obtain rfl : j = 0 := by simp at hj; omega
    simpa using hf) (fun v hv => by rw [List.mem_singleton.1 hv]; exact h1)
  simp only [Nat.add_zero] at hst
  simp [Builtin.clear_, run_underlying ht, hv, hzc, hst]
theorem zero_mem (w : World) : (zeroValue 22).run Tryz.prog w = .ok (.slice none 0 0) w := by kernel_rfl
abbrev mz : List Value := [.slice none 0 0]
/-- What a deletion leaves. -/
def DmP (base : Nat) (L : List Value) (v : Value) (w : World) (e : Ending) (w' : World) : Prop := Below base w w' ∧ e = .returned v ∧ RdM w' L v
theorem map_cutM (l : List Value) (j : Nat) : (cutL l j).map (fun x => [x]) = cutL (l.map fun x => [x]) j := by simp [cutL, List.map_take, List.map_drop]
theorem one_drop (l : List Value) (j : Nat) : ((l.map fun x => [x]).drop j).flatten = l.drop j := by rw [← List.map_drop, one_flat]
set_option maxRecDepth 100000 in
set_option maxHeartbeats 4000000 in
theorem deleteM_any (l : List Value) (g m c j base : Nat) (w : World) (h : OwnM w base (.slice (some ⟨g, 0, none⟩) m c) l) (hm : l.length = m) (hj : j < m) (h1 : ∀ p, p ∈ l → p.oneCell' = true) (hn : m ≤ 1000000) :
    Calls Tryz.prog 41 #[.slice (some ⟨g, 0, none⟩) m c, .int .i64 (j : Int), .int .i64 ((j : Int) + 1)] w (DmP base (cutL l j) (.slice (some ⟨g, 0, none⟩) (m - 1) c) w) := by
  have hmix : Tryz.prog.follows .mixedOrders = true := by kernel_rfl
  obtain ⟨i0, hi, hz0, hz1, hz2⟩ := info_parts info_qI
  obtain ⟨_, hc1, hc2⟩ := (own_capd h).2
  unfold maxLen at hc2
  have hb := (World.ownsRow.lt h g rfl)
  have h' : w.ownsRow base 22 1 (.slice (some ⟨g, 0, none⟩) m c) m (l.map fun x => [x]).flatten := by rw [one_flat]; unfold OwnM at h; rw [hm] at h; exact h
  obtain ⟨news, hnews⟩ : ∃ news, news = l.drop (j + 1) := ⟨_, rfl⟩
  have HR := Lib.hid (del_rows (World.ownsRow.drew h') (by simp [hm]) (fun r hr => by obtain ⟨x, _, rfl⟩ := List.mem_map.1 hr; rfl) hj mz (by decide))
  rw [one_drop, ← hnews, ← map_cutM, Nat.mul_one, Nat.mul_one] at HR
  have hlen : news.length = m - (j + 1) := by rw [hnews, List.length_drop, hm]
  have hfz : ∀ k, w.frozen? ⟨g, k, none⟩ = false := fun k => h'.frozenAt k
  have hget : ∀ k, k < m → w.cell? ⟨g, k, none⟩ = l[k]? := fun k hk => by
    rw [h'.cellAt k (by omega), one_flat]
  have hcell : ∀ k, k < m → (w.cell? ⟨g, k, none⟩).isSome = true := fun k hk => by
    rw [hget k hk, List.getElem?_eq_getElem (by omega)]; rfl
  obtain ⟨A, hA, hsrc⟩ : ∃ A : Addr, (if c = j + 1 then some (⟨g, 0, none⟩ : Addr) else some ⟨g, j + 1, none⟩) = some A ∧ Hid (∀ t u, news[t]? = some u → w.drew.cell? (A.add t) = some u) := by
    by_cases hcj : c = j + 1
    · refine ⟨⟨g, 0, none⟩, by simp [hcj], fun t u hu => ?_⟩
      have h0 : news.length = 0 := by rw [hlen]; omega
      rw [List.length_eq_zero_iff.1 h0] at hu
      simp at hu
    · refine ⟨⟨g, j + 1, none⟩, by simp [hcj], fun t u hu => ?_⟩
      have ht : t < m - (j + 1) := by
        have := (List.getElem?_eq_some_iff.1 hu).1
        rwa [hlen] at this
      rw [Addr.add_lit]
      show w.cell? _ = _
      rw [hget _ (by omega)]
      rw [hnews, List.getElem?_drop] at hu
      exact hu
  have s1 : Hid (news.length = (m - (j + 1)) * 1) := by rw [Nat.mul_one]; exact hlen
  have s2 : Hid (∀ u ∈ news, u.oneCell' = true) := fun u hu => h1 u (by rw [hnews] at hu; exact List.mem_of_mem_drop hu)
  have s3 : Hid (∀ t, t < news.length → (w.drew.cell? ⟨g, 0 + j * 1 + t, none⟩).isSome = true ∧ w.drew.frozen? ⟨g, 0 + j * 1 + t, none⟩ = false) := fun t ht => by
    rw [hlen] at ht
    rw [Nat.zero_add, Nat.mul_one]
    exact ⟨hcell _ (by omega), hfz _⟩
  obtain ⟨W1, hW1⟩ : ∃ W1, W1 = w.drew.setCells g (0 + j * 1) news := ⟨_, rfl⟩
  have hW : Hid (W1 = w.drew.setCells g (0 + j * 1) news) := hW1
  have hcl : ∀ ty, (Builtin.clear_ #[23] ty #[.slice (some ⟨g, m - 1, none⟩) 1 (c - (m - 1))]).run Tryz.prog W1 = .ok (.tuple #[]) (W1.setCells g (m - 1) mz) := fun ty =>
    run_clear_one _ W1 _ _ ty _ Tryz.underlying23 zero_mem rfl rfl _ _ _
      (by
        rw [hW1]
        exact World.isSome_setCells _ _ _ _ _ (hcell _ (by omega)))
      (by rw [hW1, World.frozen?_setCells]; exact hfz _)
  have hW2 : Hid (Below base w (W1.setCells g (m - 1) mz) ∧ RdM (W1.setCells g (m - 1) mz) (cutL l j) (.slice (some ⟨g, 0, none⟩) (m - 1) c)) := by
    refine ⟨below_cells (hb.1) _ _ ?_, ?_⟩
    · rw [hW1]
      exact below_cells hb.1 _ _ (Below.refl base w).drew
    · have := HR.out
      rw [hW1, Nat.zero_add, Nat.mul_one]
      exact this
  have hjc : j + 1 ≤ c := by omega
  have hic : j ≤ c := by omega
  have hj0 : (0 : Int) ≤ (j : Int) + 1 := by omega
  have hjm : (j : Int) + 1 ≤ (m : Int) := by omega
  clear hW1 h h' hcell hget hfz hnews hlen HR h1 hb hz0
  go_enter Tryz.func41, Tryz.ntmps41
  go_wp2_with fail
  go_region_law_o (refine step_append_room rfl (.tmp 22) (.tmp 25) 23 rfl 22 i0 1 Tryz.underlying23 hi hz1 g 0 j c (by simp [Act.eval, Act.put]) A (m - (j + 1)) (c - (j + 1)) news (by simp [Act.eval, Act.put]) s1.out hsrc.out s2.out (by omega) s3.out ?_; rw [show j + (m - (j + 1)) = m - 1 by omega, ← hW.out])
  obtain ⟨M1, hM1⟩ : ∃ M1, M1 = m - 1 := ⟨_, rfl⟩
  rw [← hM1] at hcl hW2 ⊢
  have hmM : m = M1 + 1 := by omega
  subst hmM
  have e2 : M1 + 1 - M1 = 1 := by omega
  have e3 : ¬ c = M1 := by omega
  have e4 : M1 ≤ c := by omega
  clear hM1
  go_wp2
  go_ret
  exact ⟨hW2.out.1, rfl, hW2.out.2⟩
end Go.Proofs.YtahidclhplmkiaaGreatDoor
