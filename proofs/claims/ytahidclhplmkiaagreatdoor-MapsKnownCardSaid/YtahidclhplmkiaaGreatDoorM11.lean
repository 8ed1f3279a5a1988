/- Package maps: Insert, at any place. -/
import Derived.Test.YtahidclhplmkiaaGreatDoorM10
import Derived.Test.YtahidclhplmkiaaGreatDoorMIia
import Derived.Test.YtahidclhplmkiaaGreatDoorMIl
namespace Go.Proofs.YtahidclhplmkiaaGreatDoor
open Go.RowKit
set_option linter.unusedVariables false
set_option linter.unusedSimpArgs false

theorem RdRows.set8 {W : World} {wd : Nat} {rows : List (List Value)} {v : Value} (h : RdRows W wd rows v) {X : Nat} (hX : ∀ b off n c, v = .slice (some ⟨b, off, none⟩) n c → b ≠ X) (b0 b1 b2 b3 b4 b5 b6 b7 : Value) : RdRows (set8 W X b0 b1 b2 b3 b4 b5 b6 b7) wd rows v := by
  obtain ⟨A, c, e, hm, h⟩ := h
  refine ⟨A, c, e, hm, fun hn => ?_⟩
  obtain ⟨b, off, e1, hlt, hc⟩ := h hn
  refine ⟨b, off, e1, by simpa [Go.Proofs.YtahidclhplmkiaaGreatDoor.set8, World.setCell] using hlt, fun j hj i hi => ?_⟩
  have hne := hX b off _ c (e1 ▸ e)
  have : (Go.Proofs.YtahidclhplmkiaaGreatDoor.set8 W X b0 b1 b2 b3 b4 b5 b6 b7).cell? ⟨b, off + j * wd + i, none⟩ = W.cell? ⟨b, off + j * wd + i, none⟩ :=
    World.cell?_of_block (w := W) ((grow_set8.block b hlt (by simpa using hne)))
  rw [this]
  exact hc j hj i hi
/-- What slices.Insert leaves, at any place. -/
def IniP (base : Nat) (L : List Value) (n : Nat) (w : World) (e : Ending) (w' : World) : Prop := ∃ A c, e = .returned (.slice A n c) ∧ RdM w' L (.slice A n c) ∧ (∀ b off, A = some ⟨b, off, none⟩ → base ≤ b) ∧ Below base w w'
theorem insM_any (l : List Value) (x : Value) (A : Option Addr) (m c p X base : Nat) (w : World) (h : OwnM w base (.slice A m c) l) (hm : l.length = m) (hp : p ≤ m) (hx : w.heap[X]? = some (.cells #[x] 22)) (hX : base ≤ X) (hXA : ∀ b off, A = some ⟨b, off, none⟩ → X ≠ b) (h1 : ∀ p, p ∈ l → p.oneCell' = true) (h1x : x.oneCell' = true) (hn : m ≤ 900000) (hbase : base ≤ w.heap.size) :
    Calls Tryz.prog 35 #[.slice A m c, .int .i64 (p : Int), .slice (some ⟨X, 0, none⟩) 1 1] w (IniP base (insL l p x) (m + 1) w) := by
  rcases Nat.lt_or_ge p m with hlt | hge
  · have h2 := h
    unfold OwnM at h2
    rw [hm] at h2
    obtain ⟨_, hc1, hc2⟩ := (own_capd h2).2
    rcases h2.2 with ⟨e, _⟩ | ⟨g, cap, cur, e, hg, _⟩
    · cases e; omega
    · cases e
      have hne : X ≠ g := hXA g 0 rfl
      by_cases hr : m + 1 ≤ c
      · refine (insRoom_any l x g m c p X base w h hm hlt hx hne h1 h1x hn hr).mono ?_
        rintro e w' ⟨g', c', hg', rfl, hr', hb'⟩
        exact ⟨_, _, rfl, hr', fun b off e => by cases e; exact hg', hb'⟩
      · obtain rfl : c = m := by omega
        refine (insGrow_any l x g c p X base w h hm hlt hx hne h1 h1x hn hbase).mono ?_
        rintro e w' ⟨g', c', hg', rfl, hr', hb'⟩
        exact ⟨_, _, rfl, hr', fun b off e => by cases e; exact hg', hb'⟩
  · obtain rfl : p = m := by omega
    have hL : insL l p x = l ++ [x] := by
      unfold insL
      rw [← hm, List.take_length, List.drop_length]
    have hxr : RdM w [x] (.slice (some ⟨X, 0, none⟩) 1 1) := rdM_one (lt_of_block hx) (by rw [cell_of_row w X _ _ _ _ hx]; rfl) (by simp [maxLen])
    have := insEnd_any l x (.slice A p c) X base w h hbase hxr h1x (by omega)
    rw [hm] at this
    refine this.mono ?_
    rintro e w' ⟨v', rfl, ho', hb'⟩
    obtain ⟨A', c', rfl, _⟩ := ho'.form
    have hr' := ho'.reads (by simp only [List.length_append, List.length_singleton, maxLen]; omega)
    have hln : (l ++ [x]).length = p + 1 := by simp [hm]
    have hlt := World.ownsRow.lt ho'
    rw [hln] at hr' hlt ⊢
    rw [hL]
    exact ⟨A', c', rfl, hr', fun b off e => (hlt b (by rw [e]; rfl)).1, hb'⟩
/-- The answer of an operation on an array: a refusal, or the array of some members. -/
def AO (c0 : Int) (M : List Value) (w : World) (x : IRow) (c : Int) : Prop := c = c0 ∧ if c0 = 0 then (∃ v, x = aR v ∧ RdM w M v) else x = z0
theorem AO.below {c0 : Int} {M : List Value} {w w' : World} {x : IRow} {c : Int} (h : AO c0 M w x c) (hb : Below w.heap.size w w') : AO c0 M w' x c := by
  obtain ⟨h1, h2⟩ := h
  refine ⟨h1, ?_⟩
  split at h2
  · rename_i hz
    rw [if_pos hz]
    obtain ⟨v, rfl, h3⟩ := h2
    exact ⟨v, rfl, RdRows.below h3 hb⟩
  · rename_i hz
    rw [if_neg hz]
    exact h2
theorem AO.ok {c0 : Int} {M : List Value} {w : World} {x : IRow} {c : Int} (h : AO c0 M w x c) : ROk x := by
  obtain ⟨_, h2⟩ := h
  split at h2
  · obtain ⟨v, rfl, h3⟩ := h2
    exact .aR h3
  · rw [h2]; exact .z0
theorem AO.same {c0 : Int} {M : List Value} {w : World} {d : Nat} {x y : IRow} {c c' : Int} (h : AO c0 M w x c) (h' : AO c0 M w y c') (hm : c0 = 0 → ∀ p, p ∈ M → SqD w d p) : c = c' ∧ EqI w d x y := by
  have o1 := h.ok
  have o2 := h'.ok
  obtain ⟨rfl, h2⟩ := h
  obtain ⟨rfl, h2'⟩ := h'
  refine ⟨rfl, o1, o2, ?_⟩
  split at h2
  · rename_i hz
    rw [if_pos hz] at h2'
    obtain ⟨v, rfl, h3⟩ := h2
    obtain ⟨v', rfl, h3'⟩ := h2'
    exact .arr rfl (.inr (.inr rfl)) h3 h3' (hm hz)
  · rename_i hz
    rw [if_neg hz] at h2'
    rw [h2, h2']
    exact .atom rfl rfl rfl rfl
def AOP (c0 : Int) (M : List Value) (w : World) (e : Ending) (w' : World) : Prop := ∃ x c, e = .returned (.tuple #[itV x, .int .i64 c]) ∧ AO c0 M w' x c ∧ Below w.heap.size w w'
set_option maxRecDepth 100000 in
set_option maxHeartbeats 4000000 in
/-- Insert in an array, at a place that there is. -/
theorem insertAt_any (r : IRow) (ms : List Value) (p : Nat) (Av : Option Addr) (nv cv : Nat) (w : World) {d n b : Nat} {f : List IRow} (h : RdM w ms r.ms) (hr : ROk r) (hk : r.k = 3) (h1 : ∀ m, m ∈ ms → m.oneCell' = true) (hp : p ≤ ms.length) (hn : ms.length < 65536) (hnv : nv ≤ 65536)
    (hs : MemS w d (insL ms p (.slice Av nv cv)) n b f) (ho : ovB (1 + n) b = false) :
    Calls Tryz.prog 8 #[itV r, .int .i64 ((p : Int) + 1), .slice Av nv cv] w (AOP 0 (insL ms p (.slice Av nv cv)) w) := by
  have H := Lib.hid h
  have H1 := Lib.hid h1
  have HS := Lib.hid hs
  have HOV := Lib.hid ho
  have HP := Lib.hid hp
  obtain ⟨A, c, hA, hm⟩ := h.form
  have hchk := fun W => check_any r ((p : Int) + 1) 1 A ms.length c W hr (fun _ => hA) ⟨by omega, by omega⟩ ⟨by omega, by omega⟩ hm
  rw [hk, chkE_ok (by omega) (by omega)] at hchk
  have HCK := Lib.hid hchk
  clear h h1 hs ho hchk hp
  obtain ⟨k', ak, tx, tr, nd, ps, msv, fn⟩ := r
  dsimp only at hA hk
  subst hA
  subst hk
  have sps := fun w a m => run_store Tryz.prog w a ps m hr.ps
  have sfn := fun w a m => run_store Tryz.prog w a fn m hr.fn
  have ops := hr.ps
  have ofn := hr.fn
  dsimp only at ops ofn
  clear hr hm
  generalize hl : ms.length = m at *
  have HM := Lib.hid hl
  clear hl
  have hp' : p ≤ m := HP.out
  simp only [itV] at HCK ⊢
  go_enter Tryz.func8, Tryz.ntmps8
  obtain ⟨W0, hW0⟩ : ∃ W0, (w.alloc (.cells #[.int .i64 3, .int .i64 ak, .string tx, .int .i64 tr, .int .i64 nd, ps, .slice A m c, fn] 30)).alloc zblk = W0 := ⟨_, rfl⟩
  have hbx := Lib.hid (show Below w.heap.size w W0 from hW0 ▸ ((box1 w 30 #[.int .i64 3, .int .i64 ak, .string tx, .int .i64 tr, .int .i64 nd, ps, .slice A m c, fn]).alloc (by simp) zblk))
  have y0 : W0.heap[w.heap.size]? = some (.cells #[.int .i64 3, .int .i64 ak, .string tx, .int .i64 tr, .int .i64 nd, ps, .slice A m c, fn] 30) := hW0 ▸ hp_past (hp_new rfl)
  have y1 : W0.heap[w.heap.size + 1]? = some zblk := hW0 ▸ hp_new (by simp)
  have HC := Lib.hid (show ∀ W, Below (w.heap.size + 2) W0 W → Below w.heap.size w W ∧ W.cell? ⟨w.heap.size, 6, none⟩ = some (.slice A m c) ∧ W.heap[w.heap.size + 1]? = some zblk from fun W hW =>
    ⟨hbx.out.trans (hW.mono (by omega)), (blk8c ((hW.block _ (by omega)).trans y0)).2.2.2.2.2.2.1, (hW.block _ (by omega)).trans y1⟩)
  clear y0 y1
  have hz0 : W0.heap.size = w.heap.size + 2 := by subst hW0; simp
  have HW0 := Lib.hid hW0
  clear hW0
  go_wp2_with fail
  rw [HW0.out]
  refine (HCK.out W0).mono ?_
  rintro e w1 ⟨rfl, hb1⟩
  have HB1 := Lib.hid (hb1.mono (show w.heap.size + 2 ≤ _ by omega))
  have hw1 := (show w.heap.size + 2 ≤ w1.heap.size by have := HB1.out.size; omega)
  clear hb1
  obtain ⟨_, b6, _⟩ := HC.out _ HB1.out
  have t1 : decide ((65536 : Int) < (nv : Int)) = false := by simp; omega
  have t2 : decide ((65536 : Int) ≤ (m : Int)) = false := by simp; omega
  go_wp2_with fail
  refine (cloneM_any ms _ w1 (RdRows.below H.out (HC.out _ HB1.out).1) (by rw [HM.out]; omega) H1.out).mono ?_
  rintro e w3 ⟨v3, rfl, ho3, hb3⟩
  have HB3 := Lib.hid (HB1.out.trans (hb3.mono hw1))
  have hw13 := hb3.size
  obtain ⟨A3, c3, rfl, _⟩ := ho3.form
  rw [HM.out] at ho3 ⊢
  have HO3 := Lib.hid ho3
  clear hb3 ho3 b6
  go_wp2_with fail
  have hbp := box1 w3 22 #[.slice Av nv cv]
  have hlt3 := World.ownsRow.lt HO3.out
  have hI := insM_any ms (.slice Av nv cv) A3 m c3 p w3.heap.size w1.heap.size (w3.alloc (.cells #[.slice Av nv cv] 22)) (ownB HO3.out hbp) HM.out HP.out (hp_new rfl) (by omega) (fun b off e => by have := (hlt3 b (by rw [e]; rfl)).2; omega) H1.out rfl (by omega) (by simp; omega)
  clear hlt3
  refine hI.mono ?_
  rintro e w4 ⟨A4, c4, rfl, hr4, hA4, hb4⟩
  have HB4 := Lib.hid (HB3.out.trans ((hbp.mono (by omega)).trans (hb4.mono hw1)))
  have HR4 := Lib.hid (And.intro hr4 hA4)
  clear hr4 hA4 hb4 hbp hI
  obtain ⟨L, hL⟩ : ∃ L, L = insL ms p (Value.slice Av nv cv) := ⟨_, rfl⟩
  have HS2 := HS.out
  rw [← hL] at HR4 HS2 ⊢
  have HS3 := Lib.hid HS2
  have HLL := Lib.hid hL
  clear hL HS2
  obtain ⟨hbw4, _, x4⟩ := HC.out _ HB4.out
  have HX4 := Lib.hid x4
  have HBW4 := Lib.hid hbw4
  have hlt4 : w.heap.size + 1 < w4.heap.size := lt_of_block x4
  clear x4 hbw4
  have hnb : n ≤ 300000 ∧ b ≤ 5000000 := by have := HOV.out; simp only [ovB, Bool.or_eq_false_iff, decide_eq_false_iff_not] at this; omega
  have HIT := Lib.hid (aR_it HR4.out.1 (MemS.below HBW4.out HS3.out))
  go_wp2_with fail
  refine (within_any HIT.out HOV.out (by omega) (by omega)).mono ?_
  rintro e w6 ⟨rfl, hb6⟩
  have x6 := (hb6.block _ hlt4).trans HX4.out
  obtain ⟨d0, d1, d2, d3, d4, d5, d6, d7⟩ := blk8c x6
  obtain ⟨e0, e1, e2, e3, e4, e5, e6, e7⟩ := blk8f x6
  have HX6 := Lib.hid x6
  have HB6 := Lib.hid (HBW4.out.trans (hb6.mono HBW4.out.size))
  have HO6 := Lib.hid (RdRows.below HR4.out.1 hb6)
  have hlt6 : w.heap.size + 1 < w6.heap.size := lt_of_block x6
  clear hb6 x6
  simp only [itV, aR]
  go_wp2
  obtain ⟨f0, f1, f2, f3, f4, f5, f6, f7⟩ := blk8c (st8 HX6.out (.int .i64 3) (.int .i64 0) (.string { data := #[] }) (.int .i64 0) (.int .i64 0) (.slice none 0 0) (.slice A4 (m + 1) c4) (.pointer none))
  refine bodyPost_ret (v := .tuple #[itV (aR (.slice A4 (m + 1) c4)), .int .i64 0]) (w := set8 w6 (w.heap.size + 1) (.int .i64 3) (.int .i64 0) (.string { data := #[] }) (.int .i64 0) (.int .i64 0) (.slice none 0 0) (.slice A4 (m + 1) c4) (.pointer none)) ?_ rfl ⟨aR (.slice A4 (m + 1) c4), 0, rfl, ⟨rfl, ?_⟩, below_set8 HB6.out (by omega) ..⟩
  · generalize set8 w6 (w.heap.size + 1) (.int .i64 3) (.int .i64 0) (.string { data := #[] }) (.int .i64 0) (.int .i64 0) (.slice none 0 0) (.slice A4 (m + 1) c4) (.pointer none) = W at *
    simp [results, Tryz.results8, go_sem, f0, f1, f2, f3, f4, f5, f6, f7, itV, aR]
  · rw [if_pos rfl, ← HLL.out]
    refine ⟨_, rfl, RdRows.set8 HO6.out (fun b off n c e => ?_) ..⟩
    cases e
    have := HR4.out.2 b off rfl
    omega
set_option maxRecDepth 100000 in
set_option maxHeartbeats 4000000 in
/-- A refusal. -/
theorem insertBad_any (r : IRow) (i : Int) (A : Option Addr) (m c : Nat) (Av : Option Addr) (nv cv : Nat) (M : List Value) (w : World) (hr : ROk r) (hA : r.k = 3 → r.ms = .slice A m c) (hi : i64B i) (hm : m ≤ maxLen) (hne : chkE r.k i 1 m ≠ 0) :
    Calls Tryz.prog 8 #[itV r, .int .i64 i, .slice Av nv cv] w (AOP (chkE r.k i 1 m) M w) := by
  have hchk := fun W => check_any r i 1 A m c W hr hA hi ⟨by omega, by omega⟩ hm
  have HNE := Lib.hid hne
  have t1 : (chkE r.k i 1 m != 0) = true := by simpa using hne
  generalize chkE r.k i 1 m = E at *
  have HCK := Lib.hid hchk
  clear hchk hne hA
  obtain ⟨k', ak, tx, tr, nd, ps, ms, fn⟩ := r
  have sps := fun w a m => run_store Tryz.prog w a ps m hr.ps
  have sms := fun w a m => run_store Tryz.prog w a ms m hr.ms
  have sfn := fun w a m => run_store Tryz.prog w a fn m hr.fn
  have ops := hr.ps
  have oms := hr.ms
  have ofn := hr.fn
  dsimp only at ops oms ofn
  clear hr hm
  simp only [itV] at HCK ⊢
  go_enter Tryz.func8, Tryz.ntmps8
  obtain ⟨W0, hW0⟩ : ∃ W0, (w.alloc (.cells #[.int .i64 k', .int .i64 ak, .string tx, .int .i64 tr, .int .i64 nd, ps, ms, fn] 30)).alloc zblk = W0 := ⟨_, rfl⟩
  have hbx := Lib.hid (show Below w.heap.size w W0 from hW0 ▸ ((box1 w 30 #[.int .i64 k', .int .i64 ak, .string tx, .int .i64 tr, .int .i64 nd, ps, ms, fn]).alloc (by simp) zblk))
  have y1 : W0.heap[w.heap.size + 1]? = some zblk := hW0 ▸ hp_new (by simp)
  have hz0 : W0.heap.size = w.heap.size + 2 := by subst hW0; simp
  have HC := Lib.hid (show ∀ W, Below W0.heap.size W0 W → Below w.heap.size w W ∧ W.heap[w.heap.size + 1]? = some zblk from fun W hW =>
    ⟨hbx.out.trans (hW.mono (by omega)), (hW.block _ (by omega)).trans y1⟩)
  clear y1
  have HW0 := Lib.hid hW0
  clear hW0
  go_wp2_with fail
  rw [HW0.out]
  refine (HCK.out W0).mono ?_
  rintro e w1 ⟨rfl, hb1⟩
  obtain ⟨hb, x1⟩ := HC.out _ hb1
  obtain ⟨d0, d1, d2, d3, d4, d5, d6, d7⟩ := blk8c x1
  obtain ⟨e0, e1, e2, e3, e4, e5, e6, e7⟩ := blk8f x1
  have HX1 := Lib.hid x1
  have HB1 := Lib.hid hb
  have hlt1 : w.heap.size + 1 < w1.heap.size := lt_of_block x1
  clear x1 hb hb1
  go_wp2
  obtain ⟨f0, f1, f2, f3, f4, f5, f6, f7⟩ := blk8c (st8 HX1.out (.int .i64 0) (.int .i64 0) (.string { data := #[] }) (.int .i64 0) (.int .i64 0) (.slice none 0 0) (.slice none 0 0) (.pointer none))
  refine bodyPost_ret (v := .tuple #[itV z0, .int .i64 E]) (w := set8 w1 (w.heap.size + 1) (.int .i64 0) (.int .i64 0) (.string { data := #[] }) (.int .i64 0) (.int .i64 0) (.slice none 0 0) (.slice none 0 0) (.pointer none)) ?_ rfl ⟨z0, E, rfl, ⟨rfl, by rw [if_neg HNE.out]⟩, below_set8 HB1.out (by omega) ..⟩
  generalize set8 w1 (w.heap.size + 1) (.int .i64 0) (.int .i64 0) (.string { data := #[] }) (.int .i64 0) (.int .i64 0) (.slice none 0 0) (.slice none 0 0) (.pointer none) = W at *
  simp [results, Tryz.results8, go_sem, f0, f1, f2, f3, f4, f5, f6, f7, itV, z0]
end Go.Proofs.YtahidclhplmkiaaGreatDoor
/- Package maps: Insert of what is too long; isMap of what is no map. -/
namespace Go.Proofs.YtahidclhplmkiaaGreatDoor
open Go.RowKit Go.WideMaps
set_option linter.unusedVariables false
set_option linter.unusedSimpArgs false

theorem isMapKind_any (r : IRow) (w : World) (hr : ROk r) (hk : r.k ≠ 2) :
    Calls Tryz.prog 20 #[itV r] w fun e w' => e = .returned (.bool false) ∧ Below w.heap.size w w' := by
  have t1 : (r.k != 2) = true := by simpa using hk
  obtain ⟨k, ak, tx, tr, nd, ps, ms, fn⟩ := r
  have sps := fun w a m => run_store Tryz.prog w a ps m hr.ps
  have sms := fun w a m => run_store Tryz.prog w a ms m hr.ms
  have sfn := fun w a m => run_store Tryz.prog w a fn m hr.fn
  have ops := hr.ps
  have oms := hr.ms
  have ofn := hr.fn
  dsimp only at ops oms ofn t1
  clear hr hk
  simp only [itV]
  go_enter Tryz.func20, Tryz.ntmps20
  go_wp2
  go_ret
  exact ⟨rfl, box1 _ _ _⟩
set_option maxRecDepth 100000 in
set_option maxHeartbeats 4000000 in
/-- A value or an array that is too long. -/
theorem insertLong_any (r : IRow) (i : Int) (A : Option Addr) (m c : Nat) (Av : Option Addr) (nv cv : Nat) (M : List Value) (w : World) (hr : ROk r) (hA : r.k = 3 → r.ms = .slice A m c) (hi : i64B i) (hm : m ≤ maxLen) (hk : r.k = 3) (h0 : chkE r.k i 1 m = 0) (hnv : nv ≤ 1000000) (hm2 : m ≤ 1000000) (hlong : 65536 < nv ∨ 65536 ≤ m) :
    Calls Tryz.prog 8 #[itV r, .int .i64 i, .slice Av nv cv] w (AOP 2 M w) := by
  have hchk := fun W => check_any r i 1 A m c W hr hA hi ⟨by omega, by omega⟩ hm
  have hA' := hA hk
  rw [h0] at hchk
  have HCK := Lib.hid hchk
  clear hchk hA h0
  obtain ⟨k', ak, tx, tr, nd, ps, ms, fn⟩ := r
  dsimp only at hA' hk
  subst hA'
  subst hk
  have sps := fun w a m => run_store Tryz.prog w a ps m hr.ps
  have sfn := fun w a m => run_store Tryz.prog w a fn m hr.fn
  have ops := hr.ps
  have ofn := hr.fn
  dsimp only at ops ofn
  clear hr hm
  simp only [itV] at HCK ⊢
  go_enter Tryz.func8, Tryz.ntmps8
  obtain ⟨W0, hW0⟩ : ∃ W0, (w.alloc (.cells #[.int .i64 3, .int .i64 ak, .string tx, .int .i64 tr, .int .i64 nd, ps, .slice A m c, fn] 30)).alloc zblk = W0 := ⟨_, rfl⟩
  have hbx := Lib.hid (show Below w.heap.size w W0 from hW0 ▸ ((box1 w 30 #[.int .i64 3, .int .i64 ak, .string tx, .int .i64 tr, .int .i64 nd, ps, .slice A m c, fn]).alloc (by simp) zblk))
  have y1 : W0.heap[w.heap.size + 1]? = some zblk := hW0 ▸ hp_new (by simp)
  have hz0 : W0.heap.size = w.heap.size + 2 := by subst hW0; simp
  have y0 : W0.heap[w.heap.size]? = some (.cells #[.int .i64 3, .int .i64 ak, .string tx, .int .i64 tr, .int .i64 nd, ps, .slice A m c, fn] 30) := hW0 ▸ hp_past (hp_new rfl)
  have HC := Lib.hid (show ∀ W, Below W0.heap.size W0 W → Below w.heap.size w W ∧ W.heap[w.heap.size + 1]? = some zblk ∧ W.cell? ⟨w.heap.size, 6, none⟩ = some (.slice A m c) from fun W hW =>
    ⟨hbx.out.trans (hW.mono (by omega)), (hW.block _ (by omega)).trans y1, (blk8c ((hW.block _ (by omega)).trans y0)).2.2.2.2.2.2.1⟩)
  clear y0
  clear y1
  have HW0 := Lib.hid hW0
  clear hW0
  go_wp2_with fail
  rw [HW0.out]
  refine (HCK.out W0).mono ?_
  rintro e w1 ⟨rfl, hb1⟩
  obtain ⟨hb, x1, b6⟩ := HC.out _ hb1
  obtain ⟨d0, d1, d2, d3, d4, d5, d6, d7⟩ := blk8c x1
  obtain ⟨e0, e1, e2, e3, e4, e5, e6, e7⟩ := blk8f x1
  have HX1 := Lib.hid x1
  have HB1 := Lib.hid hb
  have hlt1 : w.heap.size + 1 < w1.heap.size := lt_of_block x1
  clear x1 hb hb1
  have hz : 65536 < nv ∨ (¬ 65536 < nv ∧ 65536 ≤ m) := by omega
  rcases hz with hz | ⟨hz, hz'⟩
  · have t2 : decide ((65536 : Int) < (nv : Int)) = true := by simp; omega
    go_wp2
    obtain ⟨f0, f1, f2, f3, f4, f5, f6, f7⟩ := blk8c (st8 HX1.out (.int .i64 0) (.int .i64 0) (.string { data := #[] }) (.int .i64 0) (.int .i64 0) (.slice none 0 0) (.slice none 0 0) (.pointer none))
    refine bodyPost_ret (v := .tuple #[itV z0, .int .i64 2]) (w := set8 w1 (w.heap.size + 1) (.int .i64 0) (.int .i64 0) (.string { data := #[] }) (.int .i64 0) (.int .i64 0) (.slice none 0 0) (.slice none 0 0) (.pointer none)) ?_ rfl ⟨z0, 2, rfl, ⟨rfl, by rw [if_neg (by decide)]⟩, below_set8 HB1.out (by omega) ..⟩
    generalize set8 w1 (w.heap.size + 1) (.int .i64 0) (.int .i64 0) (.string { data := #[] }) (.int .i64 0) (.int .i64 0) (.slice none 0 0) (.slice none 0 0) (.pointer none) = W at *
    simp [results, Tryz.results8, go_sem, f0, f1, f2, f3, f4, f5, f6, f7, itV, z0]
  · have t2 : decide ((65536 : Int) < (nv : Int)) = false := by simp; omega
    have t3 : decide ((65536 : Int) ≤ (m : Int)) = true := by simp; omega
    go_wp2
    obtain ⟨f0, f1, f2, f3, f4, f5, f6, f7⟩ := blk8c (st8 HX1.out (.int .i64 0) (.int .i64 0) (.string { data := #[] }) (.int .i64 0) (.int .i64 0) (.slice none 0 0) (.slice none 0 0) (.pointer none))
    refine bodyPost_ret (v := .tuple #[itV z0, .int .i64 2]) (w := set8 w1 (w.heap.size + 1) (.int .i64 0) (.int .i64 0) (.string { data := #[] }) (.int .i64 0) (.int .i64 0) (.slice none 0 0) (.slice none 0 0) (.pointer none)) ?_ rfl ⟨z0, 2, rfl, ⟨rfl, by rw [if_neg (by decide)]⟩, below_set8 HB1.out (by omega) ..⟩
    generalize set8 w1 (w.heap.size + 1) (.int .i64 0) (.int .i64 0) (.string { data := #[] }) (.int .i64 0) (.int .i64 0) (.slice none 0 0) (.slice none 0 0) (.pointer none) = W at *
    simp [results, Tryz.results8, go_sem, f0, f1, f2, f3, f4, f5, f6, f7, itV, z0]
end Go.Proofs.YtahidclhplmkiaaGreatDoor
