/- Chapter maps, examples: text, number, two. -/
import Derived.Test.YtahidclhplmkiaaGreatDoorM9
import Derived.Test.YtahidclhplmkiaaGreatDoorMIgq
namespace Go.Proofs.YtahidclhplmkiaaGreatDoor
open Go.RowKit
set_option linter.unusedVariables false
set_option linter.unusedSimpArgs false

/-- The row of a text. -/
def tR (s : ByteArray) : IRow := ⟨0, 1, s, 0, 0, .slice none 0 0, .slice none 0 0, .pointer none⟩
set_option maxRecDepth 100000 in
theorem number_any (s : ByteArray) (w : World) : Calls Tryz.prog 5 #[.string s] w fun e w' => e = .returned (.agg #[.int .i64 3, .string s]) ∧ Below w.heap.size w w' := by
  go_enter Tryz.func5, Tryz.ntmps5
  go_wp2
  refine bodyPost_ret (v := .agg #[.int .i64 3, .string s]) ?_ rfl ⟨rfl, ?_⟩
  · simp [results, Tryz.results5, go_sem]
  · exact box1 _ _ _
/-- A text: one atom in a new block. -/
def TxtP (s : ByteArray) (w : World) (e : Ending) (w' : World) : Prop := Below w.heap.size w w' ∧ w.heap.size < w'.heap.size ∧ e = .returned (.slice (some ⟨w.heap.size, 0, none⟩) 1 1) ∧ ICells w' w.heap.size 0 (tR s)
set_option maxRecDepth 100000 in
theorem txt_any (s : ByteArray) (w : World) : Calls Tryz.prog 12 #[.string s] w (TxtP s w) := by
  go_enter Tryz.func12, Tryz.ntmps12
  go_wp2
  go_ret
  exact ⟨box1 _ _ _, by simp, rfl, icells_at (hp_new rfl)⟩
theorem TxtP.sq {W W' : World} {X : Nat} {s : ByteArray} (h : ICells W X 0 (tR s)) (hlt : X < W.heap.size) (d : Nat) : SqR W (d + 1) (.slice (some ⟨X, 0, none⟩) 1 1) 1 s.size [tR s] :=
  one_sq (r := tR s) ⟨⟨rfl, rfl, rfl⟩, .inl ⟨rfl, rfl, rfl, rfl⟩⟩ h hlt
theorem ICells.below {W W' : World} {X o : Nat} {r : IRow} (h : ICells W X o r) (hlt : X < W.heap.size) (hb : Below W.heap.size W W') : ICells W' X o r := by
  have e : ∀ i, W'.cell? ⟨X, i, none⟩ = W.cell? ⟨X, i, none⟩ := fun i => hb.cell (p := ⟨X, i, none⟩) hlt
  obtain ⟨h0, h1, h2, h3, h4, h5, h6, h7⟩ := h
  exact ⟨(e _).trans h0, (e _).trans h1, (e _).trans h2, (e _).trans h3, (e _).trans h4, (e _).trans h5, (e _).trans h6, (e _).trans h7⟩
theorem RdRows.far {W W' : World} {wd : Nat} {rows : List (List Value)} {v : Value} (h : RdRows W wd rows v) (hs : W.heap.size ≤ W'.heap.size) (hb : ∀ b off n c, v = .slice (some ⟨b, off, none⟩) n c → W'.heap[b]? = W.heap[b]?) : RdRows W' wd rows v := by
  obtain ⟨A, c, e, hm, h⟩ := h
  refine ⟨A, c, e, hm, fun hn => ?_⟩
  obtain ⟨b, off, e1, hlt, hc⟩ := h hn
  exact ⟨b, off, e1, by omega, fun j hj i hi => (World.cell?_of_block (w := W) (w' := W') (a := ⟨b, _, none⟩) (hb b off _ c (e1 ▸ e))).trans (hc j hj i hi)⟩
theorem ICells.far {W W' : World} {X o : Nat} {r : IRow} (h : ICells W X o r) (hb : W'.heap[X]? = W.heap[X]?) : ICells W' X o r := by
  have e : ∀ i, W'.cell? ⟨X, i, none⟩ = W.cell? ⟨X, i, none⟩ := fun i => World.cell?_of_block (w := W) (w' := W') (a := ⟨X, i, none⟩) hb
  obtain ⟨h0, h1, h2, h3, h4, h5, h6, h7⟩ := h
  exact ⟨(e _).trans h0, (e _).trans h1, (e _).trans h2, (e _).trans h3, (e _).trans h4, (e _).trans h5, (e _).trans h6, (e _).trans h7⟩
theorem bel_row {B g : Nat} {a W : World} (h : Below B a W) (hg : B ≤ g) (cs : Array Value) : Below B a (W.setRow g cs) :=
  h.trans ⟨rfl, rfl, rfl, by simp, fun k hk => setRow_other _ _ _ _ (by omega)⟩
def sa : ByteArray := { data := #[97] }
def sb : ByteArray := { data := #[98] }
def twoL (X1 X2 : Nat) : List PRow := [⟨3, d1, .slice (some ⟨X1, 0, none⟩) 1 1⟩, ⟨3, d2, .slice (some ⟨X2, 0, none⟩) 1 1⟩]
/-- The map of two. -/
def TwoP (w : World) (e : Ending) (w' : World) : Prop := Below w.heap.size w w' ∧ ∃ X X1 X2, e = .returned (itV (mapR (.slice (some ⟨X, 0, none⟩) 2 2))) ∧ RdP w' (twoL X1 X2) (.slice (some ⟨X, 0, none⟩) 2 2) ∧ w.heap.size < X1 ∧ X1 < w'.heap.size ∧ w.heap.size < X2 ∧ X2 < w'.heap.size ∧ ICells w' X1 0 (tR sa) ∧ ICells w' X2 0 (tR sb)
set_option maxRecDepth 100000 in
set_option maxHeartbeats 2000000 in
theorem two_any (w : World) : Calls Tryz.prog 16 #[] w (TwoP w) := by
  have hinfo : (Tryz.prog.info? 30).map (fun i => i.size) = some 8 := by kernel_rfl
  go_enter Tryz.func16, Tryz.ntmps16
  go_wp2_with fail
  refine (number_any _ _).mono ?_
  rintro e w1 ⟨rfl, hb1⟩
  have HB1 := Lib.hid ((box1 w _ _).trans (hb1.mono (by simp)))
  have HX1 := Lib.hid ((hb1.block w.heap.size (by simp)).trans (hp_new (w := w) (o := zblk) rfl))
  clear hb1
  go_wp2_with fail
  refine (txt_any _ _).mono ?_
  rintro e w2 ⟨hb2, hlt2, rfl, hi2⟩
  go_wp2_with fail
  refine (number_any _ _).mono ?_
  rintro e w3 ⟨rfl, hb3⟩
  go_wp2_with fail
  refine (txt_any _ _).mono ?_
  rintro e w4 ⟨hb4, hlt4, rfl, hi4⟩
  have hs1 := HB1.out.size
  have hs2 := hb2.size
  have hs3 := hb3.size
  have hs4 := hb4.size
  have hw1 : w.heap.size < w1.heap.size := lt_of_block HX1.out
  have x4 := (hb4.block w.heap.size (by omega)).trans ((hb3.block w.heap.size (by omega)).trans ((hb2.block w.heap.size (by omega)).trans HX1.out))
  have HB4 := Lib.hid (HB1.out.trans ((hb2.mono HB1.out.size).trans ((hb3.mono (by omega)).trans (hb4.mono (by omega)))))
  have HI1 := Lib.hid (show ICells w4 w1.heap.size 0 (tR { data := #[97] }) from (ICells.below (ICells.below hi2 hlt2 hb3) (by omega) hb4))
  have HI2 := Lib.hid (show ICells w4 w3.heap.size 0 (tR { data := #[98] }) from hi4)
  have hX4 : w.heap.size < w4.heap.size := by omega
  have HX4 := Lib.hid x4
  have h31 : w1.heap.size < w4.heap.size := by omega
  have h33 : w.heap.size < w1.heap.size ∧ w.heap.size < w3.heap.size ∧ w3.heap.size < w4.heap.size := by omega
  have HLT := Lib.hid h33
  clear hb2 hb3 hb4 hlt2 hlt4 hi2 hi4 x4 hs1 hs2 hs3 hs4 h33
  obtain ⟨X1, hX1⟩ : ∃ X, X = w1.heap.size := ⟨_, rfl⟩
  obtain ⟨X2, hX2⟩ : ∃ X, X = w3.heap.size := ⟨_, rfl⟩
  rw [← hX1, ← hX2]
  have HE1 := Lib.hid hX1
  have HE2 := Lib.hid hX2
  clear hX1 hX2
  go_wp2_with (refine wpList_store_row rfl 30 (.tmp 0) (.tmp 8) rfl w.heap.size ?cells ?hx ?hy 30 ?old ?hg ?hi ?hold ?h1 ?_)
  case hx => rfl
  case hy => rfl
  case old => exact #[.int .i64 0, .int .i64 0, .string { data := #[] }, .int .i64 0, .int .i64 0, .slice none 0 0, .slice none 0 0, .pointer none]
  case hg => exact hp_past HX4.out
  case hi => exact hinfo
  case hold => rfl
  case h1 => simp [Value.oneCell']
  have x5 := setRow_heap _ _ _ #[.int .i64 2, .int .i64 0, .string { data := #[] }, .int .i64 0, .int .i64 0, .slice (some ⟨w4.heap.size, 0, none⟩) 2 2, .slice none 0 0, .pointer none] _ _ (hp_past (o := .cells #[.int .i64 3, .string { data := #[49] }, .slice (some ⟨X1, 0, none⟩) 1 1, .int .i64 3, .string { data := #[50] }, .slice (some ⟨X2, 0, none⟩) 1 1] 33) HX4.out)
  obtain ⟨f0, f1, f2, f3, f4, f5, f6, f7⟩ := blk8c x5
  refine bodyPost_ret (v := itV (mapR (.slice (some ⟨w4.heap.size, 0, none⟩) 2 2))) ?_ rfl ?_
  · simp [results, Tryz.results16, go_sem, f0, f1, f2, f3, f4, f5, f6, f7, itV, mapR]
  · have hl := HLT.out
    have e1 := HE1.out
    have e2 := HE2.out
    have ho := rows_of_own (rows := (twoL X1 X2).map PRow.cells) (World.ownsRow_lit (base := 0) (e := 33) (size := 3) w4 #[.int .i64 3, .string { data := #[49] }, .slice (some ⟨X1, 0, none⟩) 1 1, .int .i64 3, .string { data := #[50] }, .slice (some ⟨X2, 0, none⟩) 1 1] 2 (Nat.zero_le _) (by simp [maxLen]) rfl) rfl (cells3 _) (by simp [maxLen])
    refine ⟨bel_row (HB4.out.alloc (by omega) _) (Nat.le_refl _) _, w4.heap.size, X1, X2, rfl, ?_, by omega, by simp; omega, by omega, by simp; omega, ?_, ?_⟩
    · refine RdRows.far ho (by simp) fun b off n c e => ?_
      cases e
      exact setRow_other _ _ _ _ (by omega)
    · exact ICells.far (e1 ▸ HI1.out) ((setRow_other _ _ _ _ (by omega)).trans (Below.heap_alloc _ _ _ (by omega)))
    · exact ICells.far (e2 ▸ HI2.out) ((setRow_other _ _ _ _ (by omega)).trans (Below.heap_alloc _ _ _ (by omega)))
end Go.Proofs.YtahidclhplmkiaaGreatDoor
