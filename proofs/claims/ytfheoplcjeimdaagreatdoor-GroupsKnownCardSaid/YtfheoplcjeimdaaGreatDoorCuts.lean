/- groups.cut: the walk. -/
import Derived.Test.YtfheoplcjeimdaaGreatDoorCutw
import Derived.Laws.MakeOwn
import Derived.Deep.OwnRows
namespace Go.Proofs.YtfheoplcjeimdaaGreatDoor
open Go.RowKit
set_option linter.unusedVariables false
set_option linter.unusedSimpArgs false

theorem make_ints (m : Nat) (hm : m ≤ 1000000) : ∀ W : World, (Instr.makeSlice 35 (.int .i64 (m : Int)) (.int .i64 (m : Int))).run Tryz.prog W = .ok (.slice (some ⟨W.heap.size, 0, none⟩) m m) (W.alloc (.cells (madeCells #[.int .i64 0] m) 3)) := by
  intro W
  exact run_make_row' 35 3 (.int .i64 0) 8 Tryz.underlying35 info_int rfl .i64 .i64 m (by omega) (by omega) W
theorem own_made (W : World) (base m : Nat) (hb : base ≤ W.heap.size) (hm : m ≤ 1000000) :
    (W.alloc (.cells (madeCells #[.int .i64 0] m) 3)).ownsRow base 3 1 (.slice (some ⟨W.heap.size, 0, none⟩) m m) m (ints (List.replicate m 0)) := by
  have := World.ownsRow_lit (base := base) (e := 3) (size := 1) W (madeCells #[.int .i64 0] m) m hb (by simp only [maxLen]; omega) (by simp [madeCells])
  have hl : (madeCells #[Value.int .i64 0] m).toList = ints (List.replicate m 0) := by
    apply List.ext_getElem
    · simp [ints, madeCells]
    · intro i h1 h2
      simp [ints, madeCells, Nat.mod_one]
  rwa [hl] at this

theorem CutI.start (W : World) (base n : Nat) (hb : base ≤ W.heap.size) (hn : n ≤ 1000000) : CutI (W.alloc (.cells (madeCells #[.int .i64 0] n) 3)) base n 0 W.heap.size (.slice none 0 0) [] :=
  ⟨by simpa [rng] using own_made W base n hb hn, World.ownsRow_nil _ _ _ _⟩
theorem CutI.below {w w1 : World} {base n k ga : Nat} {v : Value} {l : List (Nat × Nat)} (h : CutI w base n k ga v l) (hb : Below w.heap.size w w1) : CutI w1 base n k ga v l := ⟨own_below h.all hb, own_below h.rows hb⟩
theorem CutI.push {w w1 : World} {base n k ga : Nat} {v v1 : Value} {l : List (Nat × Nat)} {a b : Nat} (h : CutI w base n k ga v l)
    (ho : w1.ownsRow base 35 1 v1 (l.length + 1) ((l.map fun p => .slice (some ⟨ga, p.1, none⟩) (p.2 - p.1) (p.2 - p.1)) ++ [.slice (some ⟨ga, a, none⟩) (b - a) (b - a)])) (hg : w.grownBy w1 v.ownBlock) : CutI w1 base n k ga v1 (l ++ [(a, b)]) :=
  ⟨h.all.kept hg (own_type_ne h.all h.rows (by decide)), by simpa using ho⟩

theorem RdII.of_nil {w : World} {base : Nat} {e : TypeId} {v : Value} {xs : List Value} (h : w.ownsRow base e 1 v 0 xs) : RdII w v [] := by
  rcases h.2 with ⟨rfl, _⟩ | ⟨g, cap, cur, rfl, _⟩
  · exact ⟨_, _, rfl, fun hp => absurd hp (by simp)⟩
  · exact ⟨_, _, rfl, fun hp => absurd hp (by simp)⟩

set_option maxHeartbeats 1600000 in
set_option maxRecDepth 100000 in
theorem cut_any (g B n : Nat) (beg : Nat → Bool) (w : World) (hg : g = 38 ∨ g = 39 ∨ g = 34) (hn : n ≤ 1000000)
    (hcl : ∀ (i : Int) (j : Nat) W, i = j → 0 < j → j < n → Below w.heap.size w W → Calls Tryz.prog g #[.int .i64 i, .pointer (some ⟨B, 0, none⟩)] W fun e W' => e = .returned (.bool (beg j)) ∧ Below W.heap.size W W') :
    Calls Tryz.prog 33 #[.int .i64 n, .func (.func g) #[] #[.pointer (some ⟨B, 0, none⟩)]] w fun e w' => ∃ v, e = .returned v ∧ RdII w' v (grp beg n) ∧ Below w.heap.size w w' := by
  have HC := Lib.hid hcl
  clear hcl
  have hmk := make_ints n hn
  rcases hg with rfl | rfl | rfl
  all_goals
    go_enter Tryz.func33, Tryz.ntmps33
    go_wp2
    go_loopw [6, 7, 12] (fun v fr i wr => ∃ (k : Nat), k ≤ n ∧ i = .int .i64 k ∧ fr = .int .i64 (cutF beg k).2 ∧ Hid (CutI wr w.heap.size n k w.heap.size v (cutF beg k).1) ∧ Below w.heap.size w wr) (fun _ _ i _ => n - (intOf i).toNat)
    case atStart => exact ⟨0, Nat.zero_le _, rfl, rfl, Lib.hid (CutI.start _ _ _ (Nat.le_refl _) hn), (Below.refl _ _).alloc (Nat.le_refl _) _⟩
    case round =>
      obtain ⟨k, hk, rfl, rfl, HI, hb⟩ := hrel
      clear hmk
      have hcf2 := cutF_from beg k
      have hclen := cutF_len beg k
      generalize hcf : cutF beg k = cf at *
      obtain ⟨l, a⟩ := cf
      have HF := Lib.hid hcf
      clear hcf
      simp only at HI hcf2 hclen
      obtain ⟨hak, hak'⟩ := hcf2
      by_cases hlt : k < n
      · have hs := HI.out.store hlt
        have q1 : wr.cell? ⟨w.heap.size, k, none⟩ = some (.int .i64 0) := by
          rw [HI.out.all.cellAt k (by omega)]
          have hl : (ints (rng 0 k)).length = k := by rw [ints_length, rng_len]; omega
          obtain ⟨m, hm⟩ : ∃ m, n - k = m + 1 := ⟨n - k - 1, by omega⟩
          rw [ints_append, List.getElem?_append_right (by omega), hl, Nat.sub_self, hm]
          simp [ints, List.replicate_succ]
        have q2 : wr.frozen? ⟨w.heap.size, k, none⟩ = false := HI.out.all.frozenAt k
        have HS := Lib.hid hs
        have hb1 := hb.grown hs.2 hb.size (by intro q hq; injection hq with hq; omega)
        clear hs
        rcases Nat.eq_zero_or_pos k with h0 | h0
        · subst h0
          obtain rfl : a = 0 := by omega
          clear hak hak'
          go_wp2
          go_roundw
          case rel => exact ⟨1, by omega, rfl, by simp [cutF], Lib.hid (by have h1 := HF.out; have h2 := HS.out.1; simp only [cutF] at h1 ⊢; injection h1 with h1 _; subst h1; simpa using h2), hb1⟩
          case measure => simp [intOf]; omega
        · have hak := hak' h0
          clear hak'
          go_wp2_with fail
          refine (HC.out _ k _ rfl h0 hlt hb1).mono ?_
          rintro e w1 ⟨rfl, hb2⟩
          have HT := Lib.hid (HS.out.1.below hb2)
          have hz := hb1.size
          have hz2 := hb2.size
          have hb3 : Below w.heap.size w w1 := hb1.trans (hb2.mono hz)
          clear HS q1 q2 HI hb
          by_cases hbk : beg k = true
          · have hz3 := Nat.le_trans hz hz2
            go_wp2_with (at_builtin; refine app_one w.heap.size rfl (.tmp 26) (.tmp 32) 26 35 (.slice none 0 0) 24 rfl Tryz.underlying26 info_ints rfl _ l.length _ rfl w1.heap.size rfl _ rfl rfl HT.out.rows hz3 (by omega) (by simp only [maxLen]; omega) ?_)
            intro g2 cap2 w2 ho hg2 _ _
            have b2 : Below w1.heap.size w1 (w1.alloc (.cells #[.slice (some ⟨w.heap.size, a, none⟩) (k - a) (k - a)] 35)) := (Below.refl _ _).alloc (Nat.le_refl _) _
            have HP := Lib.hid ((HT.out.below b2).push ho hg2)
            have hb4 : Below w.heap.size w w2 := below_grown (hb3.trans (b2.mono hz3)) (by simp; omega) hg2 (HT.out.below b2).rows (Nat.le_refl _)
            clear ho hg2 b2 HT
            go_wp2
            go_roundw
            case rel =>
              have e : cutF beg (k + 1) = (l ++ [(a, k)], k) := by rw [cutF, if_pos (by simp [hbk, h0]), HF.out]
              exact ⟨k + 1, by omega, by go_num, by rw [e], Lib.hid (by rw [e]; exact HP.out), hb4⟩
            case measure => simp [intOf]; omega
          · have hbk : beg k = false := by simpa using hbk
            go_wp2
            go_roundw
            case rel => exact ⟨k + 1, by omega, by go_num, by rw [cutF, if_neg (by simp [hbk]), HF.out], Lib.hid (by rw [cutF, if_neg (by simp [hbk]), HF.out]; exact HT.out), hb3⟩
            case measure => simp [intOf]; omega
      · obtain rfl : k = n := by omega
        have HI := Lib.hid HI.out
        have hs := hb.size
        rcases Nat.eq_zero_or_pos k with h0 | h0
        · subst h0
          go_wp2
          go_ret
          have e := HF.out
          simp only [cutF] at e
          injection e with e _
          subst e
          exact ⟨_, rfl, RdII.of_nil HI.out.rows, hb⟩
        · have hak := hak' h0
          go_wp2_with (at_builtin; refine app_one w.heap.size rfl (.tmp 38) (.tmp 44) 26 35 (.slice none 0 0) 24 rfl Tryz.underlying26 info_ints rfl _ l.length _ rfl wr.heap.size rfl _ rfl rfl HI.out.rows hs (by omega) (by simp only [maxLen]; omega) ?_)
          intro g2 cap2 w2 ho hg2 _ _
          have b2 : Below wr.heap.size wr (wr.alloc (.cells #[.slice (some ⟨w.heap.size, a, none⟩) (k - a) (k - a)] 35)) := (Below.refl _ _).alloc (Nat.le_refl _) _
          have HP := Lib.hid ((HI.out.below b2).push ho hg2)
          have hb4 : Below w.heap.size w w2 := below_grown (hb.trans (b2.mono hs)) (by simp; omega) hg2 (HI.out.below b2).rows (Nat.le_refl _)
          clear ho hg2 b2 HI
          go_wp2
          go_ret
          refine ⟨_, rfl, ?_, hb4⟩
          have hr := HP.out.reads (fun p hp => by
            rw [List.mem_append, List.mem_singleton] at hp
            rcases hp with hp | hp
            · have := cutF_in beg k p (by rw [HF.out]; exact hp); omega
            · subst hp; exact ⟨hak, Nat.le_refl _⟩) h0
          rw [grp_cut beg k h0, HF.out]
          simpa [rngs] using hr
end Go.Proofs.YtfheoplcjeimdaaGreatDoor
