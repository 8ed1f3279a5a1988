/- chisellaw30.works: the chapter's examples. -/
import Derived.Test.YtfheoplcjeimdaaGreatDoorWst
namespace Go.Proofs.YtfheoplcjeimdaaGreatDoor
open Go.RowKit
set_option linter.unusedVariables false
set_option linter.unusedSimpArgs false

theorem wkO_of {i : Nat} {o : Oper} (h : wkOps[i]? = some o) : i < 52 ∧ o = wkO i := by
  obtain ⟨h1, h2⟩ := Array.getElem?_eq_some_iff.1 h
  refine ⟨by rw [wkOps_size] at h1; exact h1, ?_⟩
  unfold wkO
  rw [Array.getD_eq_getD_getElem?, h]; rfl
theorem wk_low : ((List.range 52).all fun i => (wkO i).after.all fun e => !Region.binds .any e || decide (e.on < i)) = true := by kernel_rfl
theorem wk_dst : ((List.range 52).all fun i => decide ((wkO i).dst = some (wkD i))) = true := by kernel_rfl
theorem wkD_ne (i j : Nat) (hi : i < 52) (hj : j < 52) (h : j ≠ i) : wkD j ≠ wkD i := by
  unfold wkD; split <;> split <;> omega
theorem works_test {v1 v2 : Value} {Au : Option Addr} {cu bm id : Nat} {w : World} {ops : Array Oper} {a : Act} {Q : Exit → Act → World → Prop} (he : ops = wkOps) (h1 : RdII w v1 g1) (h2 : RdAtoms w Au 2 lAB) (h3 : RdII w v2 g2) (h4 : RdBools w (some ⟨bm, 0, none⟩) 5 mks)
    (hd : a.defers = []) (ht : a.tmps.size = 83) (k1 : a.tmps.getD 1 undef = v1) (k2 : a.tmps.getD 2 undef = .slice Au 2 cu) (k3 : a.tmps.getD 3 undef = v2) (k4 : a.tmps.getD 4 undef = .slice (some ⟨bm, 0, none⟩) 5 5)
    (hdone : ∀ a' w', a'.defers = [] → a'.tmps.size = 83 → a'.tmps.getD 0 undef = .bool true → Below w.heap.size w w' → Q .normal a' w') : (Code.region id ops true).wp Tryz.prog Q a w := by
  subst he
  refine wp_region_told (by kernel_rfl) 52 wkD wkΦ (wkP v1 v2 Au cu bm) 83 ?_ wkOps_size ?_ ?_ ?_ ?_ ?_ ?_ hd ht ?_ ?_
  · intro i o h e he hb
    obtain ⟨hi, rfl⟩ := wkO_of h
    have := List.all_eq_true.1 wk_low i (List.mem_range.2 hi)
    have := Array.all_eq_true_iff_forall_mem.1 this e he
    simpa [hb] using this
  · intro i o h
    obtain ⟨hi, rfl⟩ := wkO_of h
    exact of_decide_eq_true (List.all_eq_true.1 wk_dst i (List.mem_range.2 hi))
  · intro i hi; unfold wkD; split <;> omega
  · exact wkD_ne
  · intro i hi p hp
    have : p.1 = 1 ∨ p.1 = 2 ∨ p.1 = 3 ∨ p.1 = 4 := by
      simp only [wkP, List.mem_cons, List.not_mem_nil, or_false] at hp
      rcases hp with rfl | rfl | rfl | rfl <;> simp
    unfold wkD; split <;> omega
  · intro j v w w' hb h; exact WK.mono _ _ _ _ hb h
  · intro i o h
    obtain ⟨hi, rfl⟩ := wkO_of h
    exact steps h1 h2 h3 h4 i hi
  · intro p hp
    simp only [wkP, List.mem_cons, List.not_mem_nil, or_false] at hp
    rcases hp with rfl | rfl | rfl | rfl
    · exact k1
    · exact k2
    · exact k3
    · exact k4
  · intro a' w' e1 e2 e3 e4 e5
    exact hdone a' w' e1 e2 (e4 51 (by omega)) e5

set_option maxRecDepth 100000 in
set_option maxHeartbeats 1000000 in
theorem works_any (w : World) : Calls Tryz.prog 12 #[] w fun e w' => e = .returned (.bool true) ∧ Below w.heap.size w w' := by
  go_enter Tryz.func12, Tryz.ntmps12
  go_wp2_with (go_at_call 26; refine (word_any _ _).mono ?_; rintro e w' ⟨rfl, rfl⟩)
  have hby := fun A cap W h => by_any (va := vaS) (sa := saS) atomC_str kA A 4 cap W (by decide) trivial (by omega) (by decide) h
  refine (hby _ _ _ ?hk).mono ?_
  case hk =>
    refine rdAA_lit kA 4 rfl (heap_new (by simp)) rfl (fun j hj => ?_)
    match j, hj with
    | 0, _ =>
      refine ⟨_, _, rfl, ?_⟩
      apply rdAtoms_lit
      case hn => rfl
      case h => repeat (first | (apply heap_new; simp; done) | (with_reducible apply heap_past))
      case hc => rfl
      case hl => decide
    | 1, _ =>
      refine ⟨_, _, rfl, ?_⟩
      apply rdAtoms_lit
      case hn => rfl
      case h => repeat (first | (apply heap_new; simp; done) | (with_reducible apply heap_past))
      case hc => rfl
      case hl => decide
    | 2, _ =>
      exact ⟨_, _, rfl, rfl, by decide, fun h => absurd h (by decide)⟩
    | 3, _ =>
      refine ⟨_, _, rfl, ?_⟩
      apply rdAtoms_lit
      case hn => rfl
      case h => repeat (first | (apply heap_new; simp; done) | (with_reducible apply heap_past))
      case hc => rfl
      case hl => decide
  rintro e w1 ⟨v1, u1, rfl, hM, hP, hb⟩
  have hR := ReadsA_of hM (by rw [by_kA]; decide)
  rw [by_kA] at hR
  obtain ⟨r1, Au, cu, rfl, r2⟩ := hR
  repeat (replace hb := below_box hb)
  have R1 := Lib.hid r1
  have R2 := Lib.hid r2
  clear hM hP hby r1 r2
  go_wp2_with (go_at_call 26; refine (word_any _ _).mono ?_; rintro e w' ⟨rfl, rfl⟩)
  have hadj := fun A cap W h => adjacent_any (va := vaS) (sa := saS) atomC_str kB A 6 cap W (by decide) trivial (by omega) (by decide) h
  refine (hadj _ _ _ ?hk2).mono ?_
  case hk2 =>
    refine rdAA_lit kB 6 rfl (heap_new (by simp)) rfl (fun j hj => ?_)
    match j, hj with
    | 0, _ =>
      refine ⟨_, _, rfl, ?_⟩
      apply rdAtoms_lit
      case hn => rfl
      case h => repeat (first | (apply heap_new; simp; done) | (with_reducible apply heap_past))
      case hc => rfl
      case hl => decide
    | 1, _ =>
      refine ⟨_, _, rfl, ?_⟩
      apply rdAtoms_lit
      case hn => rfl
      case h => repeat (first | (apply heap_new; simp; done) | (with_reducible apply heap_past))
      case hc => rfl
      case hl => decide
    | 2, _ =>
      refine ⟨_, _, rfl, ?_⟩
      apply rdAtoms_lit
      case hn => rfl
      case h => repeat (first | (apply heap_new; simp; done) | (with_reducible apply heap_past))
      case hc => rfl
      case hl => decide
    | 3, _ =>
      refine ⟨_, _, rfl, ?_⟩
      apply rdAtoms_lit
      case hn => rfl
      case h => repeat (first | (apply heap_new; simp; done) | (with_reducible apply heap_past))
      case hc => rfl
      case hl => decide
    | 4, _ =>
      exact ⟨_, _, rfl, rfl, by decide, fun h => absurd h (by decide)⟩
    | 5, _ =>
      exact ⟨_, _, rfl, rfl, by decide, fun h => absurd h (by decide)⟩
  rintro e w2 ⟨v2, rfl, r3, hb2⟩
  rw [adj_kB] at r3
  repeat (replace hb2 := below_box hb2)
  have R3 := Lib.hid r3
  clear hadj r3
  go_wp2
  have hb3 : Below w2.heap.size w2 (w2.alloc (.cells #[.bool false, .bool false, .bool true, .bool true, .bool false] 4)) := (Below.refl _ _).alloc (Nat.le_refl _) _
  refine works_test (v1 := v1) (v2 := v2) (Au := Au) (cu := cu) (bm := w2.heap.size) (by kernel_rfl) ?_ ?_ ?_ ?_ rfl rfl rfl rfl rfl rfl ?_
  · exact (R1.out.below hb2).below hb3
  · exact (R2.out.below hb2).below hb3
  · exact R3.out.below hb3
  · refine ⟨rfl, fun _ => ⟨_, 0, rfl, by simp, fun j hj => ?_⟩⟩
    rw [cell_of_row _ _ _ #[.bool false, .bool false, .bool true, .bool true, .bool false] _ _ (heap_new rfl)]
    match j, hj with
    | 0, _ => rfl
    | 1, _ => rfl
    | 2, _ => rfl
    | 3, _ => rfl
    | 4, _ => rfl
  · intro a' w' e1 e2 e3 hb4
    have hb5 : Below w.heap.size w w' := (hb.trans (hb2.mono hb.size)).trans ((hb3.trans (hb4.mono hb3.size)).mono (Nat.le_trans hb.size hb2.size))
    clear hb hb2 hb3 hb4 R1 R2 R3
    go_wp2
    refine bodyPost_ret (v := .bool true) ?_ e1 ⟨rfl, hb5⟩
    simp [results, Tryz.results12, go_sem, Act.eval, e3]
    rw [Array.getD_eq_getD_getElem?] at e3; exact e3
end Go.Proofs.YtfheoplcjeimdaaGreatDoor
