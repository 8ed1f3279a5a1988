/- slices.Delete of one entry: the walk. -/
import Derived.Deep.MidRow
import Derived.Test.YtahidclhplmkiaaGreatDoorM9
namespace Go.Proofs.YtahidclhplmkiaaGreatDoor
open Go.RowKit
set_option linter.unusedVariables false
set_option linter.unusedSimpArgs false

abbrev pz : List Value := [.int .i64 0, .string { data := #[] }, .slice none 0 0]
/-- What a deletion leaves. -/
def DelP (base : Nat) (L : List PRow) (v : Value) (w : World) (e : Ending) (w' : World) : Prop := Below base w w' ∧ e = .returned v ∧ RdP w' L v
theorem map_cutL (l : List PRow) (j : Nat) : (cutL l j).map PRow.cells = cutL (l.map PRow.cells) j := by simp [cutL, List.map_take, List.map_drop]
set_option maxRecDepth 100000 in
set_option maxHeartbeats 4000000 in
theorem deleteP_any (l : List PRow) (g m c j base : Nat) (w : World) (h : OwnP w base (.slice (some ⟨g, 0, none⟩) m c) l) (hm : l.length = m) (hj : j < m) (h1 : ∀ p, p ∈ l → p.v.oneCell' = true) (hn : m ≤ 1000000) :
    Calls Tryz.prog 40 #[.slice (some ⟨g, 0, none⟩) m c, .int .i64 (j : Int), .int .i64 ((j : Int) + 1)] w (DelP base (cutL l j) (.slice (some ⟨g, 0, none⟩) (m - 1) c) w) := by
  have hmix : Tryz.prog.follows .mixedOrders = true := by kernel_rfl
  obtain ⟨i0, hi, hz0, hz1, hz2⟩ := info_parts info_pair
  obtain ⟨_, hc1, hc2⟩ := (own_capd h).2
  unfold maxLen at hc2
  have hb := (World.ownsRow.lt h g rfl)
  have h' : w.ownsRow base 33 3 (.slice (some ⟨g, 0, none⟩) m c) m (l.map PRow.cells).flatten := by unfold OwnP at h; rw [hm] at h; exact h
  obtain ⟨news, hnews⟩ : ∃ news, news = ((l.map PRow.cells).drop (j + 1)).flatten := ⟨_, rfl⟩
  have HR := Lib.hid (del_rows (World.ownsRow.drew h') (by simp [hm]) (cells3 l) hj pz (by decide))
  rw [← hnews, ← map_cutL] at HR
  have hlen : news.length = (m - (j + 1)) * 3 := by
    rw [hnews, flat_len (wd := 3) _ (fun r hr => cells3 l r (List.mem_of_mem_drop hr))]
    simp [hm]
  have hfz : ∀ k, w.frozen? ⟨g, k, none⟩ = false := fun k => h'.frozenAt k
  have hcell : ∀ k, k < m * 3 → (w.cell? ⟨g, k, none⟩).isSome = true := fun k hk => by
    rw [h'.cellAt k hk]
    have := flat_len (l.map PRow.cells) (cells3 l)
    rw [List.length_map, hm] at this
    rw [List.getElem?_eq_getElem (by omega)]; rfl
  obtain ⟨A, hA, hsrc⟩ : ∃ A : Addr, (if c = j + 1 then some (⟨g, 0, none⟩ : Addr) else some ⟨g, (j + 1) * 3, none⟩) = some A ∧ Hid (∀ t u, news[t]? = some u → w.drew.cell? (A.add t) = some u) := by
    by_cases hcj : c = j + 1
    · refine ⟨⟨g, 0, none⟩, by simp [hcj], fun t u hu => ?_⟩
      have h0 : news.length = 0 := by rw [hlen]; omega
      rw [List.length_eq_zero_iff.1 h0] at hu
      simp at hu
    · refine ⟨⟨g, (j + 1) * 3, none⟩, by simp [hcj], fun t u hu => ?_⟩
      have ht : t < (m - (j + 1)) * 3 := by
        have := (List.getElem?_eq_some_iff.1 hu).1
        rwa [hlen] at this
      have hd := flat_len ((l.map PRow.cells).take (j + 1)) (fun r hr => cells3 l r (List.mem_of_mem_take hr))
      rw [List.length_take, List.length_map, hm, Nat.min_eq_left (by omega)] at hd
      rw [Addr.add_lit]
      show w.cell? _ = _
      rw [h'.cellAt _ (by omega)]
      have e : (l.map PRow.cells).flatten = ((l.map PRow.cells).take (j + 1)).flatten ++ news := by rw [hnews, ← List.flatten_append, List.take_append_drop]
      rw [e, List.getElem?_append_right (by omega), hd, show (j + 1) * 3 + t - (j + 1) * 3 = t by omega]
      exact hu
  have s1 : Hid (news.length = (m - (j + 1)) * 3) := hlen
  have s2 : Hid (∀ u ∈ news, u.oneCell' = true) := fun u hu => pflat_one l h1 u (by
    rw [hnews] at hu
    unfold pflat
    obtain ⟨r, hr, hu⟩ := List.mem_flatten.1 hu
    exact List.mem_flatten.2 ⟨r, List.mem_of_mem_drop hr, hu⟩)
  have s3 : Hid (∀ t, t < news.length → (w.drew.cell? ⟨g, 0 + j * 3 + t, none⟩).isSome = true ∧ w.drew.frozen? ⟨g, 0 + j * 3 + t, none⟩ = false) := fun t ht => by
    rw [hlen] at ht
    rw [Nat.zero_add]
    exact ⟨hcell _ (by omega), hfz _⟩
  obtain ⟨W1, hW1⟩ : ∃ W1, W1 = w.drew.setCells g (0 + j * 3) news := ⟨_, rfl⟩
  have hW : Hid (W1 = w.drew.setCells g (0 + j * 3) news) := hW1
  have hcl : ∀ ty, (Builtin.clear_ #[27] ty #[.slice (some ⟨g, (m - 1) * 3, none⟩) 1 (c - (m - 1))]).run Tryz.prog W1 = .ok (.tuple #[]) (W1.setCells g ((m - 1) * 3) pz) := fun ty =>
    run_clear_three _ W1 _ _ ty _ _ _ Tryz.underlying27 zero_pair (by intro v hv; simp only [List.mem_cons, List.not_mem_nil, or_false] at hv; rcases hv with rfl | rfl | rfl <;> rfl) _ _ _
      (fun q hq => by
        rw [hW1]
        exact World.isSome_setCells _ _ _ _ _ (hcell _ (by omega)))
      (fun q hq => by rw [hW1, World.frozen?_setCells]; exact hfz _)
  have hW2 : Hid (Below base w (W1.setCells g ((m - 1) * 3) pz) ∧ RdP (W1.setCells g ((m - 1) * 3) pz) (cutL l j) (.slice (some ⟨g, 0, none⟩) (m - 1) c)) := by
    refine ⟨below_cells (hb.1) _ _ ?_, ?_⟩
    · rw [hW1]
      exact below_cells hb.1 _ _ (Below.refl base w).drew
    · have := HR.out
      rw [hW1, Nat.zero_add]
      exact this
  have hjc : j + 1 ≤ c := by omega
  have hic : j ≤ c := by omega
  have hj0 : (0 : Int) ≤ (j : Int) + 1 := by omega
  have hjm : (j : Int) + 1 ≤ (m : Int) := by omega
  clear hW1 h h' hcell hfz hnews hlen HR h1 hb hz0
  go_enter Tryz.func40, Tryz.ntmps40
  go_wp2_with fail
  go_region_law_o (refine step_append_room rfl (.tmp 22) (.tmp 25) 27 rfl 33 i0 3 Tryz.underlying27 hi hz1 g 0 j c (by simp [Act.eval, Act.put]) A (m - (j + 1)) (c - (j + 1)) news (by simp [Act.eval, Act.put]) s1.out hsrc.out s2.out (by omega) s3.out ?_; rw [show j + (m - (j + 1)) = m - 1 by omega, ← hW.out])
  obtain ⟨M1, hM1⟩ : ∃ M1, M1 = m - 1 := ⟨_, rfl⟩
  rw [← hM1] at hcl hW2 ⊢
  have hmM : m = M1 + 1 := by omega
  subst hmM
  have e2 : M1 + 1 - M1 = 1 := by omega
  have e3 : ¬ c = M1 := by omega
  have e4 : M1 ≤ c := by omega
  clear hM1
  go_wp2
  go_ret
  exact ⟨hW2.out.1, rfl, hW2.out.2⟩
end Go.Proofs.YtahidclhplmkiaaGreatDoor
