/- Package maps: isMap where a key is met twice. -/
import Derived.Test.YtahidclhplmkiaaGreatDoorMIl
namespace Go.Proofs.YtahidclhplmkiaaGreatDoor
open Go.RowKit Go.WideMaps
set_option linter.unusedVariables false
set_option linter.unusedSimpArgs false

set_option maxRecDepth 100000 in
theorem isMapTwice_any (r : IRow) (p1 p2 : PRow) (w : World) (h : RdP w [p1, p2] r.ps) (hr : ROk r) (hk : r.k = 2) (h1 : KE p1) (h2 : KE p2) (he : p2.tx = p1.tx) :
    Calls Tryz.prog 20 #[itV r] w fun e w' => e = .returned (.bool false) ∧ Below w.heap.size w w' := by
  have hok : ∀ p, p ∈ [p1, p2] → KE p ∧ p.tx = p1.tx := fun p hp => by
    simp only [List.mem_cons, List.not_mem_nil, or_false] at hp
    rcases hp with rfl | rfl
    · exact ⟨h1, rfl⟩
    · exact ⟨h2, he⟩
  clear h1 h2 he
  generalize hll : p1.tx = t0 at *
  obtain ⟨A, c, hA, hm⟩ := h.form
  obtain ⟨k, ak, tx, tr, nd, ps, ms, fn⟩ := r
  dsimp only at hA hk h
  subst hA
  subst hk
  have sms := fun w a m => run_store Tryz.prog w a ms m hr.ms
  have sfn := fun w a m => run_store Tryz.prog w a fn m hr.fn
  have oms := hr.ms
  have ofn := hr.fn
  dsimp only at oms ofn
  have H := Lib.hid h
  have HOK := Lib.hid hok
  clear h hok hm hr hll
  generalize hl : ([p1, p2] : List PRow).length = m at *
  have HM2 := Lib.hid (show m = 2 by rw [← hl]; rfl)
  have HM := Lib.hid hl
  clear hl
  have hmm := @run_makeMap Tryz.prog
  simp only [itV]
  go_enter Tryz.func20, Tryz.ntmps20
  go_wp2
  go_loopw [14] (fun i wr => ∃ k : Nat, k ≤ 1 ∧ i = .int .i64 k ∧ Hid (Below w.heap.size w wr) ∧ Hid (w.heap.size + 1 < wr.heap.size ∧ ∃ D, wr.ownsMap (H := Unit) Tryz.prog 69 (plainElem Tryz.prog 3) (w.heap.size + 1) k D ∧ Maps.IsMap D ∧ D.atKey (klit t0) (.lit (.int .i64 0)) = .lit (.int .i64 k))) (fun i _ => m - (intOf i).toNat)
  case atStart =>
    refine ⟨0, Nat.zero_le _, rfl, Lib.hid ((box1 w _ _).alloc (by simp) _), Lib.hid ⟨by simp, _, ?_, ⟨[], rfl⟩, rfl⟩⟩
    have := World.ownsMap_made (H := Unit) (w.alloc (.cells #[.int .i64 2, .int .i64 ak, .string tx, .int .i64 tr, .int .i64 nd, .slice A m c, ms, fn] 30)) Tryz.prog 69 (plainElem Tryz.prog 3)
    simpa using this
  case round =>
    obtain ⟨k, hk, rfl, HB, HX⟩ := hrel
    have hmm2 := HM2
    have hlt : k < m := by have := HM2.out; omega
    obtain ⟨bI, off, r, rfl, hbI, hget, hdrop, g0, g1, g2⟩ := H.out.row HB.out hlt
    have hok := HOK.out r (List.mem_of_getElem? hget)
    have sv := fun w a m => run_store Tryz.prog w a _ m hok.1.2
    have hv := hok.1.2
    have HOKR := Lib.hid hok.1
    have HT := Lib.hid hok.2
    have hbn : bI < wr.heap.size := by have := HB.out.size; omega
    clear hok hget hdrop hbI
    go_wp2_with fail
    refine (ent_valid r HOKR.out _).mono ?_
    rintro e w1 ⟨rfl, hb1⟩
    have HB1 := Lib.hid (HB.out.trans (((box1 wr 33 #[.int .i64 r.ak, .string r.tx, r.v]).trans (hb1.mono (by simp))).mono HB.out.size))
    have c0 := (hb1.cell (p := ⟨wr.heap.size, 0, none⟩) (by simp)).trans (show _ = some (Value.int .i64 r.ak) by simp)
    have c1 := (hb1.cell (p := ⟨wr.heap.size, 1, none⟩) (by simp)).trans (show _ = some (Value.string r.tx) by simp)
    have hw1 := (show wr.heap.size < w1.heap.size by have := hb1.size; simp at this; omega)
    have HO1 := Lib.hid (show ∀ D, wr.ownsMap (H := Unit) Tryz.prog 69 (plainElem Tryz.prog 3) (w.heap.size + 1) k D → w1.ownsMap Tryz.prog 69 (plainElem Tryz.prog 3) (w.heap.size + 1) k D from fun D h => map_below (map_below h ((box1 wr _ _).trans (hb1.mono (by simp))) HX.out.1) (Below.refl _ _) HX.out.1)
    clear hb1
    go_wp2_with fail
    refine (classOf_any _ _ _ HOKR.out.1.1).mono ?_
    rintro e w2 ⟨rfl, hb2⟩
    have HB2 := Lib.hid (HB1.out.trans (hb2.mono HB1.out.size))
    have hw2 := (show w1.heap.size ≤ w2.heap.size from hb2.size)
    obtain ⟨D, hD, hF1, hF2⟩ := HX.out.2
    have hlw := HX.out.1
    have hO2 : (w2.alloc (.cells #[.int .i64 4, .string r.tx] 69)).ownsMap Tryz.prog 69 (plainElem Tryz.prog 3) (w.heap.size + 1) k D := (map_below (HO1.out D hD) hb2 (by omega)).alloc _
    have HO2 := Lib.hid hO2
    rw [← HT.out] at hF2
    have HF := Lib.hid (And.intro hF1 hF2)
    clear hD hF1 hF2 hb2 hO2
    have HKY := Lib.hid (klit_is HOKR.out.ds)
    simp only [clsV]
    have hk01 : k = 0 ∨ k = 1 := by omega
    rcases hk01 with rfl | rfl
    · go_wp2_with (first
        | (at_lookup; refine wpList_lookup_own_int _ rfl _ _ 67 rfl 69 3 .i64 law_cls Tryz.underlying67 Tryz.underlying3 (zero_int _) (w.heap.size + 1) _ _ rfl HO2.out _ (klit r.tx) rfl HKY.out ?_; intro c hat hwc; obtain rfl : c = 0 := (by rw [HF.out.2] at hat; simpa using hat.symm); clear hat hwc)
        | (at_mapUpdate; refine wpList_mapUpdate_own _ rfl _ _ _ 67 rfl 69 3 law_cls Tryz.underlying67 _ (w.heap.size + 1) _ _ rfl HO2.out (by simp [maxLen]) _ _ (klit r.tx) rfl rfl HKY.out _ [] (plainElem_int Tryz.underlying3 (by decide)) ?_; intro w3 hown3 hgrow3)
        | fail)
      have HF3 := Lib.hid (show Maps.IsMap (D.put (klit r.tx) (.lit (.int .i64 1))) ∧ (D.put (klit r.tx) (.lit (.int .i64 1))).atKey (klit t0) (.lit (.int .i64 0)) = .lit (.int .i64 ((1 : Nat) : Int)) by
        obtain ⟨⟨es, rfl⟩, _⟩ := HF.out
        refine ⟨⟨_, rfl⟩, ?_⟩
        rw [← HT.out, Maps.atKey_put_same ⟨es, rfl⟩ (klit_lit HOKR.out.ds)]
        rfl)
      have HO3 := Lib.hid hown3
      have HB3 := Lib.hid ((HB2.out.alloc (by have := HB2.out.size; omega) _).grown hgrow3 (by simp; omega) (fun j hj => by cases hj; omega))
      have hw3 := (show w.heap.size + 1 < w3.heap.size by have := hgrow3.size; simp at this; omega)
      clear hown3 hgrow3
      go_roundw
      case rel => exact ⟨1, by omega, by go_num, HB3, Lib.hid ⟨hw3, _, HO3.out, HF3.out⟩⟩
      case measure => have := HM2.out; simp [intOf]; omega
    · go_wp2_with (first
        | (at_lookup; refine wpList_lookup_own_int _ rfl _ _ 67 rfl 69 3 .i64 law_cls Tryz.underlying67 Tryz.underlying3 (zero_int _) (w.heap.size + 1) _ _ rfl HO2.out _ (klit r.tx) rfl HKY.out ?_; intro c hat hwc; obtain rfl : c = 1 := (by rw [HF.out.2] at hat; simpa using hat.symm); clear hat hwc)
        | fail)
      go_ret
      exact ⟨rfl, HB2.out.alloc (by have := HB2.out.size; omega) _⟩
end Go.Proofs.YtahidclhplmkiaaGreatDoor
