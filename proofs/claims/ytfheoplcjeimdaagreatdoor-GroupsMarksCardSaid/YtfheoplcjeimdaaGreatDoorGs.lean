/- chisellaw30.GroupsMarks: the walk. -/
import Derived.Test.YtfheoplcjeimdaaGreatDoorGm
import Derived.Test.YtfheoplcjeimdaaGreatDoorGst
namespace Go.Proofs.YtfheoplcjeimdaaGreatDoor
open Go.RowKit
set_option linter.unusedVariables false
set_option linter.unusedSimpArgs false

def bools (l : List Bool) : List Value := l.map .bool
theorem info_bool : (Tryz.prog.info? 4).map (fun i => (i.zero, i.size, i.bytes)) = some (some (.bool false), 1, 1) := by kernel_rfl
theorem make_bools (m : Nat) (hm : m ≤ 1000000) : ∀ W : World, (Instr.makeSlice 32 (.int .i64 (m : Int)) (.int .i64 (m : Int))).run Tryz.prog W = .ok (.slice (some ⟨W.heap.size, 0, none⟩) m m) (W.alloc (.cells (madeCells #[.bool false] m) 4)) := by
  intro W
  exact run_make_row' 32 4 (.bool false) 1 Tryz.underlying32 info_bool rfl .i64 .i64 m (by omega) (by omega) W
/-- The values of a function at the first n places. -/
def tab (f : Nat → Bool) (n : Nat) : List Bool := (List.range n).map f
theorem tab_len (f : Nat → Bool) (n : Nat) : (tab f n).length = n := by simp [tab]
theorem tab_get (f : Nat → Bool) (n j : Nat) (h : j < n) : (tab f n).getD j false = f j := by
  simp [tab, List.getD_eq_getElem?_getD, h]
theorem tab_set (f : Nat → Bool) (n k : Nat) (b : Bool) : (bools (tab f n)).set k (.bool b) = bools (tab (fun j => if j = k then b else f j) n) := by
  apply List.ext_getElem
  · simp [bools, tab]
  · intro i h1 h2
    simp only [bools, tab, List.getElem_set, List.getElem_map, List.getElem_range]
    by_cases e : k = i
    · subst e; simp
    · rw [if_neg e, if_neg (fun c => e c.symm)]
theorem tab_congr (f g : Nat → Bool) (n : Nat) (h : ∀ j, j < n → f j = g j) : tab f n = tab g n := by
  unfold tab; exact List.map_congr_left fun j hj => h j (List.mem_range.1 hj)
theorem own_madeB (W : World) (base m : Nat) (hb : base ≤ W.heap.size) (hm : m ≤ 1000000) :
    (W.alloc (.cells (madeCells #[.bool false] m) 4)).ownsRow base 4 1 (.slice (some ⟨W.heap.size, 0, none⟩) m m) m (bools (tab (fun _ => false) m)) := by
  have := World.ownsRow_lit (base := base) (e := 4) (size := 1) W (madeCells #[.bool false] m) m hb (by simp only [maxLen]; omega) (by simp [madeCells])
  have hl : (madeCells #[Value.bool false] m).toList = bools (tab (fun _ => false) m) := by
    apply List.ext_getElem
    · simp [bools, tab, madeCells]
    · intro i h1 h2
      simp [bools, tab, madeCells, Nat.mod_one]
  rwa [hl] at this
theorem own_tab {w : World} {base g n cap : Nat} {f : Nat → Bool} (h : w.ownsRow base 4 1 (.slice (some ⟨g, 0, none⟩) n cap) n (bools (tab f n))) : RdBools w (some ⟨g, 0, none⟩) n (tab f n) := by
  refine ⟨tab_len f n, fun hn => ⟨g, 0, rfl, (h.lt g rfl).2, fun j hj => ?_⟩⟩
  rw [Nat.zero_add, h.cellAt j (by omega), tab_get f n j hj]
  simp [bools, tab, hj]
theorem own_cell {w : World} {base g n cap : Nat} {f : Nat → Bool} (h : w.ownsRow base 4 1 (.slice (some ⟨g, 0, none⟩) n cap) n (bools (tab f n))) (j : Nat) (hj : j < n) : w.cell? ⟨g, j, none⟩ = some (.bool (f j)) ∧ w.frozen? ⟨g, j, none⟩ = false := by
  refine ⟨?_, h.frozenAt j⟩
  rw [h.cellAt j (by omega)]
  simp [bools, tab, hj]
theorem own_put {w : World} {base B g n cap : Nat} {f : Nat → Bool} (h : w.ownsRow base 4 1 (.slice (some ⟨g, 0, none⟩) n cap) n (bools (tab f n))) (k : Nat) (b : Bool) (hB : B ≤ base) {w0 : World} (hb : Below B w0 w) :
    (w.setCell ⟨g, k, none⟩ (.bool b)).ownsRow base 4 1 (.slice (some ⟨g, 0, none⟩) n cap) n (bools (tab (fun j => if j = k then b else f j) n)) ∧ Below B w0 (w.setCell ⟨g, k, none⟩ (.bool b)) := by
  obtain ⟨h1, h2⟩ := h.stored k (.bool b)
  refine ⟨by rw [tab_set] at h1; exact h1, hb.grown h2 ?_ ?_⟩
  · have := (h.lt g rfl); omega
  · intro q hq; injection hq with hq; subst hq; have := (h.lt g rfl).1; omega

theorem starts_split (beg : Nat → Bool) (n : Nat) (h : 0 < n) : starts beg n = 0 :: (List.range' 1 (n - 1)).filter (fun j => decide (j = 0) || beg j) := by
  obtain ⟨m, rfl⟩ : ∃ m, n = m + 1 := ⟨n - 1, by omega⟩
  unfold starts
  rw [List.range_eq_range', List.range'_succ]
  simp
theorem starts_past (beg : Nat → Bool) (n j : Nat) (hj : 0 < j) (h : j < n) : (j ∈ (starts beg n).drop 1) ↔ beg j = true := by
  rw [starts_split beg n (by omega), List.drop_succ_cons, List.drop_zero, List.mem_filter, List.mem_range'_1]
  have h0 : decide (j = 0) = false := by simp; omega
  rw [h0, Bool.false_or]
  constructor
  · exact fun h => h.2
  · exact fun h => ⟨by omega, h⟩
theorem starts_len (beg : Nat → Bool) (n : Nat) : (starts beg n).length = (grp beg n).length := by
  have := congrArg List.length (grp_heads beg n)
  simpa using this.symm
theorem grp_head (beg : Nat → Bool) (n m : Nat) (h : m < (grp beg n).length) : ∃ x : Nat, (starts beg n)[m]? = some x ∧ x < n ∧ ((grp beg n).getD m []).getD 0 0 = (x : Int) ∧ 0 < ((grp beg n).getD m []).length := by
  have hl := starts_len beg n
  have hm : m < (starts beg n).length := by omega
  refine ⟨(starts beg n)[m], List.getElem?_eq_getElem hm, starts_lt beg n _ (List.getElem_mem hm), ?_, List.length_pos_iff.2 (grp_ne beg n m h)⟩
  have e := congrArg (fun l => l[m]?) (grp_heads beg n)
  simp only [List.getElem?_map, List.getElem?_eq_getElem h, List.getElem?_eq_getElem hm, Option.map_some, Option.some.injEq] at e
  rw [List.getD_eq_getElem?_getD (l := grp beg n), List.getElem?_eq_getElem h, Option.getD_some, ← e]
  cases (grp beg n)[m] <;> rfl
/-- The marks that are made from the groups 1 to q. -/
def againF (beg : Nat → Bool) (n q : Nat) (j : Nat) : Bool := decide (j ∈ ((starts beg n).drop 1).take q)
theorem again_succ (beg : Nat → Bool) (n q x : Nat) (h : (starts beg n)[q + 1]? = some x) : ∀ j, (if j = x then true else againF beg n q j) = againF beg n (q + 1) j := by
  intro j
  obtain ⟨hq, e⟩ := List.getElem?_eq_some_iff.1 h
  unfold againF
  rw [List.take_succ_eq_append_getElem (by simp; omega)]
  have : ((starts beg n).drop 1)[q]'(by simp; omega) = x := by rw [List.getElem_drop]; rw [← e]; congr 1; omega
  rw [this]
  by_cases c : j = x
  · subst c; simp
  · simp [c]
theorem again_end (beg : Nat → Bool) (n q : Nat) (h : (grp beg n).length ≤ q + 1) : grp (againF beg n q) n = grp beg n := by
  apply grp_congr
  intro j h0 hj
  unfold againF
  rw [List.take_of_length_le (by have := starts_len beg n; simp; omega)]
  have := starts_past beg n j h0 hj
  cases hb : beg j
  · rw [decide_eq_false_iff_not, this, hb]; simp
  · rw [decide_eq_true_eq, this, hb]

def laterF (l : List Bool) (k j : Nat) : Bool := decide (0 < j) && decide (j < k) && l.getD (j - 1) false
theorem later_succ (l : List Bool) (k : Nat) (hk : 0 < k) : ∀ j, (if j = k then l.getD (k - 1) false else laterF l k j) = laterF l (k + 1) j := by
  intro j
  unfold laterF
  by_cases c : j = k
  · subst c; simp [hk]
  · rw [if_neg c]
    have : decide (j < k) = decide (j < k + 1) := by rw [decide_eq_decide]; omega
    rw [this]
theorem later_succ' (l : List Bool) (k : Nat) : ∀ j, (if j = k + 1 then l.getD k false else laterF l (k + 1) j) = laterF l (k + 2) j := later_succ l (k + 1) (by omega)
theorem later_end (l : List Bool) (n k : Nat) (h : n ≤ k) : grp (fun j => (tab (laterF l k) n).getD j false) n = grp (fun j => decide (0 < j) && l.getD (j - 1) false) n := by
  apply grp_congr
  intro j h0 hj
  rw [tab_get _ _ _ hj]
  unfold laterF
  have : decide (j < k) = true := by rw [decide_eq_true_eq]; omega
  rw [this, Bool.and_true]

theorem same_two (gs : List (List Int)) (beg : Nat → Bool) (n : Nat) (he : gs = grp beg n) (u v : Value) (w : World) (ha : RdII w u gs) (hb : RdII w v (grp beg n)) (hn : n ≤ 1000000) :
    Calls Tryz.prog 16 #[u, v] w fun e w' => e = .returned (.bool true) ∧ Below w.heap.size w w' := same_grp beg n gs he u v w ha hb hn

set_option maxRecDepth 100000 in
set_option maxHeartbeats 1000000 in
theorem marks_any (l : List Bool) (A : Option Addr) (n cap : Nat) (w : World) (hl : RdBools w A n l) (hn : n ≤ 9223372036854775807) :
    Calls Tryz.prog 8 #[.slice A n cap] w fun e w' => e = .returned (.bool true) ∧ Below w.heap.size w w' := by
  have HL := Lib.hid hl
  clear hl
  by_cases hc : 2000 < n
  · go_enter Tryz.func8, Tryz.ntmps8
    go_wp2_with fail
    refine (works_any _).mono ?_
    rintro e w1 ⟨rfl, hb⟩
    have HB := Lib.hid hb
    clear hb
    go_wp2
    go_ret
    exact ⟨ret_bool (by simp), HB.out⟩
  · have hmk := make_bools n (by omega)
    go_enter Tryz.func8, Tryz.ntmps8
    go_wp2
    go_loopw [4] (fun i wr => ∃ k : Nat, 1 ≤ k ∧ (k ≤ n ∨ k = 1) ∧ i = .int .i64 k ∧ Hid (wr.ownsRow w.heap.size 4 1 (.slice (some ⟨w.heap.size, 0, none⟩) n n) n (bools (tab (laterF l k) n))) ∧ Below w.heap.size w wr) (fun i _ => n - (intOf i).toNat)
    case atStart =>
      refine ⟨1, Nat.le_refl _, .inr rfl, rfl, Lib.hid ?_, (Below.refl _ _).alloc (Nat.le_refl _) _⟩
      have := own_madeB w w.heap.size n (Nat.le_refl _) (by omega)
      rwa [tab_congr (fun _ => false) (laterF l 1) n (fun j _ => by unfold laterF; by_cases c : j = 0 <;> simp [c])] at this
    case round =>
      obtain ⟨k, hk1, hkn, rfl, HO, hb⟩ := hrel
      by_cases hlt : k < n
      · obtain ⟨k, rfl⟩ : ∃ m, k = m + 1 := ⟨k - 1, by omega⟩
        obtain ⟨b, off, rfl, hbl, hr⟩ := (HL.out.below hb).2 (by omega)
        have g0 := hr k (by omega)
        obtain ⟨g1, g2⟩ := own_cell HO.out (k + 1) hlt
        clear hr
        have HP := Lib.hid (own_put HO.out (k + 1) (l.getD k false) (Nat.le_refl _) hb)
        go_wp2
        go_roundw
        case rel =>
          refine ⟨k + 2, by omega, by omega, by go_num, Lib.hid ?_, HP.out.2⟩
          have := HP.out.1
          rwa [tab_congr _ (laterF l (k + 2)) n (fun j _ => later_succ' l k j)] at this
        case measure => simp [intOf]; omega
      · have hkn' : n ≤ k := by omega
        clear hmk
        go_wp2_with fail
        refine (starting_any l A n cap wr (HL.out.below hb) (by omega)).mono ?_
        rintro e w1 ⟨v1, rfl, r1, b1⟩
        have hz := hb.size
        have R1 := Lib.hid r1
        have HO := Lib.hid (own_below HO.out b1)
        have B1 := Lib.hid (hb.trans (b1.mono hz))
        clear r1 b1 hb hz
        have hmk := make_bools n (by omega)
        obtain ⟨A1, c1, rfl, _⟩ := R1.out
        generalize hgn : grp (fun j => l.getD j false) n = gs at *
        have HG := Lib.hid hgn
        have hgl : gs.length ≤ n := by rw [← hgn]; exact grp_len _ _
        clear hgn
        generalize hgln : gs.length = gl at *
        have HGL := Lib.hid hgln
        clear hgln
        have hz := B1.out.size
        go_wp2
        obtain ⟨wo, rfl⟩ : ∃ wo : World, wo = w1 := ⟨_, rfl⟩
        go_loopw [7] (fun i wq => ∃ q : Nat, (q + 1 ≤ gl ∨ q = 0) ∧ i = .int .i64 (q + 1 : Nat) ∧ Hid (wq.ownsRow wo.heap.size 4 1 (.slice (some ⟨wo.heap.size, 0, none⟩) n n) n (bools (tab (againF (fun j => l.getD j false) n q) n))) ∧ Below wo.heap.size wo wq) (fun i _ => gl - (intOf i).toNat)
        case atStart =>
          refine ⟨0, .inr rfl, rfl, Lib.hid ?_, (Below.refl _ _).alloc (Nat.le_refl _) _⟩
          have := own_madeB wo wo.heap.size n (Nat.le_refl _) (by omega)
          rwa [tab_congr (fun _ => false) (againF (fun j => l.getD j false) n 0) n (fun j _ => by simp [againF])] at this
        case round =>
          obtain ⟨q, hq, rfl, HA, hbq⟩ := hrel
          clear hmk
          by_cases hlt : q + 1 < gl
          · obtain ⟨b1, o1, c2, A2, d2, e1, hb1, f1, r2⟩ := (R1.out.below hbq).row (q + 1) (by have := HGL.out; omega)
            simp only [Value.slice.injEq] at e1
            obtain ⟨rfl, -, -⟩ := e1
            obtain ⟨x, hx1, hx2, hx3, hx4⟩ := grp_head (fun j => l.getD j false) n (q + 1) (by rw [HG.out]; have := HGL.out; omega)
            rw [HG.out] at hx3 hx4
            generalize hxs : gs.getD (q + 1) [] = xs at *
            have HXS := Lib.hid hxs
            obtain ⟨p2, s2, rfl, hp2, k2⟩ := r2.2 hx4
            have t2 := k2 0 hx4
            rw [hx3, Nat.add_zero] at t2
            have HX1 := Lib.hid hx1
            have HX3 := Lib.hid hx3
            clear hxs r2 k2 hx1 hx3
            obtain ⟨g1, g2⟩ := own_cell HA.out x hx2
            have HP := Lib.hid (own_put HA.out x true (Nat.le_refl _) hbq)
            generalize hxl : xs.length = xl at *
            have HXL := Lib.hid hxl
            clear hxl
            have hx0 : ((xl : Int) == 0) = false := by simp; omega
            go_wp2
            go_roundw
            case rel =>
              refine ⟨q + 1, .inl (by omega), by go_num, Lib.hid ?_, HP.out.2⟩
              have := HP.out.1
              rwa [tab_congr _ (againF (fun j => l.getD j false) n (q + 1)) n (fun j _ => again_succ _ n q x HX1.out j)] at this
            case measure => simp [intOf]; omega
          · have hend := again_end (fun j => l.getD j false) n q (by rw [HG.out]; have := HGL.out; omega)
            rw [HG.out] at hend
            have HEND := Lib.hid hend
            clear hend
            have BQ := Lib.hid (B1.out.trans (hbq.mono hz))
            have HO := Lib.hid (own_below HO.out hbq)
            have R1 := Lib.hid (R1.out.below hbq)
            have hlq := HL.out.below BQ.out
            have HLQ := Lib.hid hlq
            clear hlq hbq hz
            go_wp2_with fail
            refine (ending_any l A n cap _ HLQ.out (by omega)).mono ?_
            rintro e w4 ⟨v4, rfl, r4, b4⟩
            have R4 := Lib.hid r4
            have B4 := Lib.hid (BQ.out.trans (b4.mono BQ.out.size))
            have HO := Lib.hid (own_below HO.out b4)
            have HA := Lib.hid (own_below HA.out b4)
            have R1 := Lib.hid (R1.out.below b4)
            clear r4 b4 BQ HLQ
            go_wp2_with fail
            refine (starting_any (tab (laterF l k) n) _ n n w4 (own_tab HO.out) (by omega)).mono ?_
            rintro e w5 ⟨v5, rfl, r5, b5⟩
            have R5 := Lib.hid r5
            have R4 := Lib.hid (R4.out.below b5)
            have B5 := Lib.hid (B4.out.trans (b5.mono B4.out.size))
            have HA := Lib.hid (own_below HA.out b5)
            have R1 := Lib.hid (R1.out.below b5)
            clear r5 b5 B4 HO
            go_wp2_with fail
            refine (same_two _ _ n (later_end l n k hkn').symm _ _ w5 R4.out R5.out (by omega)).mono ?_
            rintro e w6 ⟨rfl, b6⟩
            have B6 := Lib.hid (B5.out.trans (b6.mono B5.out.size))
            have HA := Lib.hid (own_below HA.out b6)
            have R1 := Lib.hid (R1.out.below b6)
            clear b6 B5 R4 R5
            go_wp2_with fail
            refine (starting_any (tab (againF (fun j => l.getD j false) n q) n) _ n n w6 (own_tab HA.out) (by omega)).mono ?_
            rintro e w7 ⟨v7, rfl, r7, b7⟩
            have R7 := Lib.hid r7
            have B7 := Lib.hid (B6.out.trans (b7.mono B6.out.size))
            have R1 := Lib.hid (R1.out.below b7)
            clear r7 b7 B6 HA
            have HEQ : Hid (gs = grp (fun j => (tab (againF (fun j => l.getD j false) n q) n).getD j false) n) := Lib.hid (by
              rw [← HEND.out]; exact (grp_congr _ _ n (fun j _ hj => tab_get _ n j hj)).symm)
            go_wp2_with fail
            refine (same_two _ (fun j => l.getD j false) n (HEQ.out.symm.trans HG.out.symm) _ _ w7 R7.out (by rw [HG.out]; exact R1.out) (by omega)).mono ?_
            rintro e w8 ⟨rfl, b8⟩
            have B8 := Lib.hid (B7.out.trans (b8.mono B7.out.size))
            clear b8 B7 R7 R1
            go_wp2_with fail
            refine (works_any _).mono ?_
            rintro e w9 ⟨rfl, hb9⟩
            have B9 := Lib.hid (B8.out.trans (hb9.mono B8.out.size))
            clear hb9 B8
            go_wp2
            go_ret
            exact ⟨ret_bool (by simp), B9.out⟩
end Go.Proofs.YtfheoplcjeimdaaGreatDoor
