/- chiselref18: Insert of a member. -/
import Derived.Test.YtgmnabflendikaaGreatDoorM4
import Derived.Test.YtgmnabflendikaaGreatDoorMImI
import Derived.Test.YtgmnabflendikaaGreatDoorM8
import Derived.Test.YtgmnabflendikaaGreatDoorM9
namespace Go.Proofs.YtgmnabflendikaaGreatDoor
open Go.RowKit
set_option linter.unusedVariables false
set_option linter.unusedSimpArgs false

set_option maxRecDepth 100000 in
set_option maxHeartbeats 4000000 in
/-- A refusal. -/
theorem refInsertBad_any (r : IRow) (i : Int) (A : Option Addr) (m c : Nat) (Av : Option Addr) (nv cv : Nat) (M : List Value) (w : World) (hr : ROk r) (hA : r.k = 3 → r.ms = .slice A m c) (hi : i64B i) (hm : m ≤ maxLen) (hne : chkE r.k i 1 m ≠ 0) :
    Calls Tryz.prog 10 #[itV r, .int .i64 i, .slice Av nv cv] w (AOP (chkE r.k i 1 m) M w) := by
  have HNE := Lib.hid hne
  obtain ⟨hi1, hi2⟩ := hi
  unfold maxLen at hm
  have hcase : (r.k ≠ 3 ∧ chkE r.k i 1 m = 1) ∨ (r.k = 3 ∧ i < 1 ∧ chkE r.k i 1 m = 6) ∨ (r.k = 3 ∧ ¬ i < 1 ∧ (m : Int) < i - 1 ∧ chkE r.k i 1 m = 6) := by
    by_cases hk : r.k = 3
    · by_cases h1 : i < 1
      · exact .inr (.inl ⟨hk, h1, by rw [hk]; exact chkE_lo h1⟩)
      · by_cases h2 : (m : Int) < i - 1
        · exact .inr (.inr ⟨hk, h1, h2, by rw [hk]; exact chkE_hi h2⟩)
        · exact absurd (by rw [hk]; exact chkE_ok h1 h2) hne
    · exact .inl ⟨hk, chkE_no hk⟩
  clear hne
  obtain ⟨k', ak, tx, tr, nd, ps, ms, fn⟩ := r
  have sps := fun w a m => run_store Tryz.prog w a ps m hr.ps
  have sms := fun w a m => run_store Tryz.prog w a ms m hr.ms
  have sfn := fun w a m => run_store Tryz.prog w a fn m hr.fn
  have ops := hr.ps
  have oms := hr.ms
  have ofn := hr.fn
  dsimp only at ops oms ofn sps sms sfn hA hcase
  clear hr
  simp only [itV]
  rcases hcase with ⟨hk, hE⟩ | ⟨hk, h1, hE⟩ | ⟨hk, h1, h2, hE⟩
  · have t1 : (k' != 3) = true := by simpa using hk
    rw [hE] at HNE ⊢
    clear hA hk hE
    go_enter Tryz.func10, Tryz.ntmps10
    go_wp2
    refine bodyPost_ret (v := .tuple #[itV z0, .int .i64 1]) ?_ rfl ⟨z0, 1, rfl, ⟨rfl, by rw [if_neg (by decide)]⟩, (box1 w _ _).alloc (by simp) _⟩
    simp [results, Tryz.results10, go_sem, itV, z0]
  · have t1 : decide (i < 1) = true := by simpa using h1
    have hA' := hA hk
    subst hA'
    subst hk
    rw [hE] at HNE ⊢
    clear hA hE h1
    go_enter Tryz.func10, Tryz.ntmps10
    go_wp2
    refine bodyPost_ret (v := .tuple #[itV z0, .int .i64 6]) ?_ rfl ⟨z0, 6, rfl, ⟨rfl, by rw [if_neg (by decide)]⟩, (box1 w _ _).alloc (by simp) _⟩
    simp [results, Tryz.results10, go_sem, itV, z0]
  · have t1 : decide (i < 1) = false := by simpa using h1
    have hA' := hA hk
    subst hA'
    subst hk
    have hw1 : IntKind.i64.wrap (i - 1) = i - 1 := by rw [IntKind.wrap_i64]; omega
    have t2 : decide ((m : Int) < i - 1) = true := by simpa using h2
    rw [hE] at HNE ⊢
    clear hA hE h1
    go_enter Tryz.func10, Tryz.ntmps10
    go_wp2
    refine bodyPost_ret (v := .tuple #[itV z0, .int .i64 6]) ?_ rfl ⟨z0, 6, rfl, ⟨rfl, by rw [if_neg (by decide)]⟩, (box1 w _ _).alloc (by simp) _⟩
    simp [results, Tryz.results10, go_sem, itV, z0]
set_option maxRecDepth 100000 in
set_option maxHeartbeats 4000000 in
/-- Insert in an array, at a place that there is. -/
theorem refInsertAt_any (r : IRow) (ms : List Value) (p : Nat) (Av : Option Addr) (nv cv : Nat) (w : World) {d n b : Nat} {f : List IRow} (h : RdM w ms r.ms) (hr : ROk r) (hk : r.k = 3) (h1 : ∀ m, m ∈ ms → m.oneCell' = true) (hp : p ≤ ms.length) (hn : ms.length < 65536) (hnv : nv ≤ 65536)
    (hs : MemS w d (insL ms p (.slice Av nv cv)) n b f) (ho : ovB (1 + n) b = false) :
    Calls Tryz.prog 10 #[itV r, .int .i64 ((p : Int) + 1), .slice Av nv cv] w (AOP 0 (insL ms p (.slice Av nv cv)) w) := by
  have H1 := Lib.hid h1
  have HP := Lib.hid hp
  have HS := Lib.hid hs
  have HOV := Lib.hid ho
  obtain ⟨A, c, hA, hm⟩ := h.form
  obtain ⟨k', ak, tx, tr, nd, ps, msv, fn⟩ := r
  dsimp only at hA hk h
  subst hA
  subst hk
  have H := Lib.hid h
  clear h h1 hp hs ho
  have sps := fun w a m => run_store Tryz.prog w a ps m hr.ps
  have sfn := fun w a m => run_store Tryz.prog w a fn m hr.fn
  have ops := hr.ps
  have ofn := hr.fn
  dsimp only at ops ofn
  clear hr hm
  generalize hl : ms.length = m at *
  have HM := Lib.hid hl
  clear hl
  have hp' := HP.out
  have hcap := RdRows.capd H.out
  have hmc := hcap.2.1
  have hcx := hcap.2.2
  unfold maxLen at hcx
  have hpc : (p : Int) ≤ (c : Int) := by omega
  have hpm : (p : Int) ≤ (m : Int) := by omega
  have t1 : decide ((p : Int) + 1 < 1) = false := by simp; omega
  have t2 : decide ((m : Int) < (p : Int)) = false := by simp; omega
  have t3 : decide ((65536 : Int) < (nv : Int)) = false := by simp; omega
  have t4 : decide ((65536 : Int) < (m : Int) + 1) = false := by simp; omega
  have HCAP := Lib.hid hcap
  clear hcap
  simp only [itV]
  have HC := Lib.hid (show ∀ W, Below (w.heap.size + 2) ((w.alloc (.cells #[.int .i64 3, .int .i64 ak, .string tx, .int .i64 tr, .int .i64 nd, ps, .slice A m c, fn] 28)).alloc zblk) W → Below w.heap.size w W ∧ W.cell? ⟨w.heap.size, 6, none⟩ = some (.slice A m c) ∧ W.heap[w.heap.size + 1]? = some zblk from fun W hW => by
    have hbx := (box1 w 28 #[.int .i64 3, .int .i64 ak, .string tx, .int .i64 tr, .int .i64 nd, ps, .slice A m c, fn]).alloc (by simp) zblk
    exact ⟨hbx.trans (hW.mono (by omega)), (blk8c ((hW.block _ (by omega)).trans (hp_past (hp_new rfl)))).2.2.2.2.2.2.1, (hW.block _ (by omega)).trans (hp_new (by simp))⟩)
  have HR0 := Lib.hid (RdRows.below H.out (HC.out _ (Below.refl _ _)).1)
  have hcase : (A = none ∧ Hid (∀ W, RdM W ms (.slice none m c) → RdM W (ms.drop p) (.slice none (m - p) (c - p)))) ∨ (∃ ad, A = some ad ∧ ∃ D : Option Addr, (if c = p then (some ad : Option Addr) else some (ad.add p)) = D ∧ Hid (∀ W, RdM W ms (.slice (some ad) m c) → RdM W (ms.drop p) (.slice D (m - p) (c - p)))) ∨ (∃ b off, A = some ⟨b, off, none⟩ ∧ ∃ D : Option Addr, (if c = p then (some ⟨b, off, none⟩ : Option Addr) else some ⟨b, off + p, none⟩) = D ∧ Hid (∀ W, RdM W ms (.slice (some ⟨b, off, none⟩) m c) → RdM W (ms.drop p) (.slice D (m - p) (c - p)))) := by
    rcases Nat.eq_zero_or_pos m with e | e
    · have e1 : m - p = 0 := by omega
      rcases A with _ | ad
      · refine .inl ⟨rfl, fun W hW => ?_⟩
        have hc0 := HCAP.out.1 rfl
        have e2 : c - p = 0 := by omega
        rw [e1, e2, List.drop_eq_nil_of_le (by rw [HM.out]; omega)]
        exact RdRows.nil _ _ _ _ ⟨fun _ => rfl, Nat.le_refl _, by simp [maxLen]⟩
      · refine .inr (.inl ⟨ad, rfl, _, rfl, fun W hW => ?_⟩)
        rw [e1, List.drop_eq_nil_of_le (by rw [HM.out]; omega)]
        refine RdRows.nil _ _ _ _ ⟨fun e => ?_, by omega, by simp only [maxLen]; omega⟩
        split at e <;> cases e
    · obtain ⟨b', off', rfl, _⟩ := H.out.at e
      exact .inr (.inr ⟨b', off', rfl, _, rfl, fun W hW => hW.drop hp'⟩)
  clear HCAP
  rcases hcase with ⟨rfl, hRD⟩ | ⟨ad, rfl, D, hD, hRD⟩ | ⟨bA, oA, rfl, D, hD, hRD⟩
  all_goals
    go_enter Tryz.func10, Tryz.ntmps10
    go_wp2_with (at_builtin; refine appM (w.heap.size + 2) rfl (.tmp 35) (.tmp 40) rfl _ [] (ms.take p) rfl _ rfl (RdM.take HR0.out HP.out) (fun q hq => H1.out q (List.mem_of_mem_take hq)) (World.ownsRow_nil _ _ _ _) (by simp) (by have := HM.out; simp; omega) ?_)
    intro v2 w2 ho2 hg2
    have hb2 := belG (B := w.heap.size + 2) (Below.refl _ _) (by simp) hg2 (World.ownsRow_nil _ (w.heap.size + 2) 29 1) (Nat.le_refl _)
    have HO2 := Lib.hid ho2
    have HB2 := Lib.hid hb2
    have hw2 : w.heap.size + 2 ≤ w2.heap.size := by have := hb2.size; simp at this; omega
    obtain ⟨_, b6, _⟩ := HC.out _ hb2
    clear ho2 hg2 hb2
    have hbp := Lib.hid (box1 w2 29 #[.slice Av nv cv])
    go_wp2_with (at_builtin; refine appM (w.heap.size + 2) rfl (.tmp 42) (.tmp 44) rfl _ (ms.take p) [Value.slice Av nv cv] rfl _ rfl (rdM_one (by simp) (by simp) (by simp [maxLen])) (fun q hq => by rw [List.mem_singleton.1 hq]; rfl) (ownB HO2.out hbp.out) (by simp; omega) (by have := HM.out; simp; omega) ?_)
    intro v3 w3 ho3 hg3
    have hb3 := belG (HB2.out.trans (hbp.out.mono hw2)) (by simp; omega) hg3 (ownB HO2.out hbp.out) (Nat.le_refl _)
    have HO3 := Lib.hid ho3
    have HB3 := Lib.hid hb3
    have hw3 : w.heap.size + 2 ≤ w3.heap.size := by have := hb3.size; simp at this; omega
    clear b6
    obtain ⟨hbw3, b6, _⟩ := HC.out _ hb3
    have HR3 := Lib.hid (RdRows.below H.out hbw3)
    clear ho3 hg3 hb3 hbp HO2 HB2 hbw3
    go_wp2_with (at_builtin; refine appM (w.heap.size + 2) rfl (.tmp 46) (.tmp 51) rfl _ (ms.take p ++ [Value.slice Av nv cv]) (ms.drop p) rfl _ rfl (hRD.out _ HR3.out) (fun q hq => H1.out q (List.mem_of_mem_drop hq)) HO3.out hw3 (by have := HM.out; simp; omega) ?_)
    intro v4 w4 ho4 hg4
    have hb4 := belG HB3.out hw3 hg4 HO3.out (Nat.le_refl _)
    have hn4 : (insL ms p (Value.slice Av nv cv)).length = m + 1 := by rw [insL_len _ (by rw [HM.out]; exact HP.out), HM.out]
    replace ho4 : OwnM w4 (w.heap.size + 2) v4 (insL ms p (.slice Av nv cv)) := by simpa [insL] using ho4
    obtain ⟨A4, c4, rfl, _⟩ := OwnM.form ho4
    rw [hn4] at ho4 ⊢
    have HO4 := Lib.hid ho4
    have HB4 := Lib.hid hb4
    have hw4 : w.heap.size + 2 ≤ w4.heap.size := by have := hb4.size; simp at this; omega
    clear ho4 hg4 hb4 b6 HO3 HB3 HR3
    go_wp2_with fail
    refine (arrayOf_any A4 (m + 1) c4 w4).mono ?_
    rintro e w5 ⟨rfl, hb5⟩
    have HB5 := Lib.hid (HB4.out.trans (hb5.mono hw4))
    have HO5 : Hid (OwnM w5 (w.heap.size + 2) (.slice A4 (m + 1) c4) (insL ms p (.slice Av nv cv))) := Lib.hid (ownB HO4.out hb5)
    have hw5 : w.heap.size + 2 ≤ w5.heap.size := by have := hb5.size; omega
    clear hb5 HB4 HO4
    have hnb : n ≤ 300000 ∧ b ≤ 5000000 := by have := HOV.out; simp only [ovB, Bool.or_eq_false_iff, decide_eq_false_iff_not] at this; omega
    have hrd : RdM w5 (insL ms p (.slice Av nv cv)) (.slice A4 (m + 1) c4) := HO5.out.reads (by rw [insL_len _ (by rw [HM.out]; exact HP.out), HM.out]; simp only [maxLen]; omega)
    have HIT := Lib.hid (aR_it hrd (MemS.below (HC.out _ HB5.out).1 HS.out))
    clear hrd
    go_wp2_with fail
    refine (refWithin_any HIT.out HOV.out (by omega) (by omega)).mono ?_
    rintro e w6 ⟨rfl, hb6⟩
    have HB6 := Lib.hid (HB5.out.trans (hb6.mono hw5))
    have HO6 : Hid (OwnM w6 (w.heap.size + 2) (.slice A4 (m + 1) c4) (insL ms p (.slice Av nv cv))) := Lib.hid (ownB HO5.out hb6)
    obtain ⟨hbw6, _, x6⟩ := HC.out _ HB6.out
    obtain ⟨d0, d1, d2, d3, d4, d5, d6, d7⟩ := blk8c x6
    obtain ⟨e0, e1, e2, e3, e4, e5, e6, e7⟩ := blk8f x6
    have HX6 := Lib.hid x6
    have HBW6 := Lib.hid hbw6
    have hlt6 : w.heap.size + 1 < w6.heap.size := lt_of_block x6
    clear x6 hbw6 hb6 HIT
    simp only [itV, aR]
    go_wp2
    obtain ⟨f0, f1, f2, f3, f4, f5, f6, f7⟩ := blk8c (st8 HX6.out (.int .i64 3) (.int .i64 0) (.string { data := #[] }) (.int .i64 0) (.int .i64 0) (.slice none 0 0) (.slice A4 (m + 1) c4) (.pointer none))
    refine bodyPost_ret (v := .tuple #[itV (aR (.slice A4 (m + 1) c4)), .int .i64 0]) (w := set8 w6 (w.heap.size + 1) (.int .i64 3) (.int .i64 0) (.string { data := #[] }) (.int .i64 0) (.int .i64 0) (.slice none 0 0) (.slice A4 (m + 1) c4) (.pointer none)) ?_ rfl ⟨aR (.slice A4 (m + 1) c4), 0, rfl, ⟨rfl, ?_⟩, below_set8 HBW6.out (by omega) ..⟩
    · generalize set8 w6 (w.heap.size + 1) (.int .i64 3) (.int .i64 0) (.string { data := #[] }) (.int .i64 0) (.int .i64 0) (.slice none 0 0) (.slice A4 (m + 1) c4) (.pointer none) = W at *
      simp [results, Tryz.results10, go_sem, f0, f1, f2, f3, f4, f5, f6, f7, itV, aR]
    · rw [if_pos rfl]
      exact ⟨_, rfl, (OwnM.set8 HO6.out (X := w.heap.size + 1) (by omega) (.int .i64 3) (.int .i64 0) (.string { data := #[] }) (.int .i64 0) (.int .i64 0) (.slice none 0 0) (.slice A4 (m + 1) c4) (.pointer none)).reads (by rw [insL_len _ (by rw [HM.out]; exact HP.out), HM.out]; simp only [maxLen]; omega)⟩
end Go.Proofs.YtgmnabflendikaaGreatDoor
