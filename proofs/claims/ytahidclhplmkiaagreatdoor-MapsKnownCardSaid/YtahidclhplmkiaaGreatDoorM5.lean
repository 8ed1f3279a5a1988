/- Package maps: where at entries, with the closure of entry; entry. -/
import Derived.Test.YtahidclhplmkiaaGreatDoorM3
import Derived.Test.YtahidclhplmkiaaGreatDoorM4
namespace Go.Proofs.YtahidclhplmkiaaGreatDoor
open Go.RowKit
set_option linter.unusedVariables false
set_option linter.unusedSimpArgs false

/-- An entry of a number's key. -/
def KP (p : PRow) : Prop := (p.ak = 3 ∨ p.ak = 4) ∧ p.v.oneCell' = true
def keyAt (t : ByteArray) (p : PRow) : Bool := p.tx.toList == t.toList
def pV (p : PRow) : Value := .agg #[.int .i64 p.ak, .string p.tx, p.v]
theorem pV_eq (p : PRow) : pV p = .agg #[.int .i64 p.ak, .string p.tx, p.v] := rfl
theorem entryQ (t : ByteArray) (p : PRow) (X : Nat) (w : World) (hp : KP p) (hX : X < w.heap.size) (c0 : w.cell? ⟨X, 0, none⟩ = some (.int .i64 4)) (c1 : w.cell? ⟨X, 1, none⟩ = some (.string t)) :
    Calls Tryz.prog 45 #[pV p, .pointer (some ⟨X, 0, none⟩)] w fun e w' => e = .returned (.bool (keyAt t p)) ∧ Below w.heap.size w w' :=
  entry1_any p.ak p.tx t p.v X w hp.1 hp.2 hX c0 c1
set_option maxRecDepth 100000 in
theorem whereP_any (l : List PRow) (v : Value) (t : ByteArray) (X : Nat) (w : World) (h : RdP w l v) (hok : ∀ r, r ∈ l → KP r) (hn : l.length ≤ 1000000) (hX : X < w.heap.size) (c0 : w.cell? ⟨X, 0, none⟩ = some (.int .i64 4)) (c1 : w.cell? ⟨X, 1, none⟩ = some (.string t)) :
    Calls Tryz.prog 32 #[v, .func (.func 45) #[] #[.pointer (some ⟨X, 0, none⟩)]] w fun e w' => e = .returned (.int .i64 (whr (keyAt t) l 0)) ∧ Below w.heap.size w w' := by
  obtain ⟨A, c, rfl, hm⟩ := h.form
  have H := Lib.hid h
  have HOK := Lib.hid hok
  have HX0 := Lib.hid (show ∀ W, Below w.heap.size w W → X < W.heap.size ∧ W.cell? ⟨X, 0, none⟩ = some (.int .i64 4) ∧ W.cell? ⟨X, 1, none⟩ = some (.string t) from fun W hW => ⟨by have := hW.size; omega, (hW.cell (p := ⟨X, 0, none⟩) hX).trans c0, (hW.cell (p := ⟨X, 1, none⟩) hX).trans c1⟩)
  clear h hok hm c0 c1
  generalize hl : l.length = m at *
  have HM := Lib.hid hl
  clear hl
  have H0 : Hid (whr (keyAt t) l 0 = whr (keyAt t) (l.drop 0) ((0 : Nat) : Int)) := rfl
  go_enter Tryz.func32, Tryz.ntmps32
  go_wp2
  go_loopw [9] (fun i wr => ∃ k : Nat, k ≤ m ∧ i = .int .i64 k ∧ Hid (Below w.heap.size w wr) ∧ Hid (whr (keyAt t) l 0 = whr (keyAt t) (l.drop k) (k : Int))) (fun i _ => m - (intOf i).toNat)
  case atStart => exact ⟨0, Nat.zero_le _, rfl, Lib.hid (Below.refl _ _), H0⟩
  case round =>
    obtain ⟨k, hk, rfl, HB, HX⟩ := hrel
    by_cases hlt : k < m
    · obtain ⟨bI, off, r, rfl, hbI, hget, hdrop, g0, g1, g2⟩ := H.out.row HB.out hlt
      have hok := HOK.out r (List.mem_of_getElem? hget)
      have sv := fun w a m => run_store Tryz.prog w a _ m hok.2
      have hv := hok.2
      have HOKR := Lib.hid hok
      have hbn : bI < wr.heap.size := by have := HB.out.size; omega
      have HX2 := Lib.hid (show whr (keyAt t) l 0 = whr (keyAt t) (r :: l.drop (k + 1)) (k : Int) by rw [← hdrop]; exact HX.out)
      clear hok hget hdrop hbI HX
      go_wp2_with fail
      refine (entryQ t r X _ HOKR.out (HX0.out _ (HB.out.trans ((box1 wr _ _).mono HB.out.size))).1 (HX0.out _ (HB.out.trans ((box1 wr _ _).mono HB.out.size))).2.1 (HX0.out _ (HB.out.trans ((box1 wr _ _).mono HB.out.size))).2.2).mono ?_
      rintro e w1 ⟨rfl, hb1⟩
      have HB1 := Lib.hid (HB.out.trans (((box1 wr _ _).trans (hb1.mono (by simp))).mono HB.out.size))
      clear hb1
      cases hp : keyAt t r with
      | true =>
        have HV := Lib.hid (show whr (keyAt t) l 0 = (k : Int) by rw [HX2.out]; simp [whr, hp])
        go_wp2
        go_ret
        exact ⟨by rw [HV.out]; rfl, HB1.out⟩
      | false =>
        have HV := Lib.hid (show whr (keyAt t) l 0 = whr (keyAt t) (l.drop (k + 1)) ((k + 1 : Nat) : Int) by rw [HX2.out]; simp [whr, hp])
        go_wp2
        go_roundw
        case rel => exact ⟨k + 1, by omega, by go_num, HB1, HV⟩
        case measure => simp [intOf]; omega
    · obtain rfl : k = m := by omega
      have HV := Lib.hid (show whr (keyAt t) l 0 = -1 by rw [HX.out, List.drop_eq_nil_of_le (by rw [HM.out]; exact Nat.le_refl _)]; rfl)
      go_wp2
      go_ret
      exact ⟨by rw [HV.out]; rfl, HB.out⟩
set_option maxRecDepth 100000 in
theorem entry_any (l : List PRow) (v : Value) (k : Int) (t : ByteArray) (w : World) (h : RdP w l v) (hok : ∀ r, r ∈ l → KP r) (hn : l.length ≤ 1000000) (hk : k = 3 ∨ k = 4) :
    Calls Tryz.prog 23 #[v, .agg #[.int .i64 k, .string t]] w fun e w' => e = .returned (.int .i64 (whr (keyAt t) l 0)) ∧ Below w.heap.size w w' := by
  obtain ⟨A, c, rfl, hm⟩ := h.form
  have H := Lib.hid h
  have HOK := Lib.hid hok
  have HK := Lib.hid hk
  clear h hok hm hk
  generalize hl : l.length = m at *
  have HM := Lib.hid hl
  clear hl
  go_enter Tryz.func23, Tryz.ntmps23
  go_wp2_with fail
  refine (classOf_any k t _ HK.out).mono ?_
  rintro e w1 ⟨rfl, hb1⟩
  have HB1 := Lib.hid ((box1 w 26 #[.int .i64 k, .string t]).trans (hb1.mono (by simp)))
  clear hb1
  simp only [clsV]
  go_wp2_with fail
  refine (whereP_any l _ t w1.heap.size _ (RdRows.below H.out (HB1.out.trans ((box1 w1 _ _).mono HB1.out.size))) HOK.out (by rw [HM.out]; exact hn) (by simp) (by simp) (by simp)).mono ?_
  rintro e w2 ⟨rfl, hb2⟩
  have HB2 := Lib.hid (HB1.out.trans (((box1 w1 _ _).trans (hb2.mono (by simp))).mono HB1.out.size))
  clear hb2
  obtain ⟨z, hz⟩ : ∃ z, whr (keyAt t) l 0 = z := ⟨_, rfl⟩
  simp only [hz]
  go_wp2
  go_ret
  exact ⟨by rw [hz]; rfl, HB2.out⟩
end Go.Proofs.YtahidclhplmkiaaGreatDoor
/- maps.where with the two closures of Merge. -/
namespace Go.Proofs.YtahidclhplmkiaaGreatDoor
open Go.RowKit
set_option linter.unusedVariables false
set_option linter.unusedSimpArgs false

set_option maxRecDepth 100000 in
theorem whereMI_any (l : List IRow) (v : Value) (w : World) (q : IRow → Bool) (h : RdI w l v) (hok : ∀ r, r ∈ l → ROk r) (hn : l.length ≤ 1000000) (hq : ∀ r, r ∈ l → ∀ W, Below w.heap.size w W → Calls Tryz.prog 30 #[itV r] W (FitP (q r) W)) :
    Calls Tryz.prog 29 #[v, .func (.func 30) #[] #[]] w fun e w' => e = .returned (.int .i64 (whr q l 0)) ∧ Below w.heap.size w w' := by
  obtain ⟨A, c, rfl, hm⟩ := h.form
  have H := Lib.hid h
  have HOK := Lib.hid hok
  have HQ := Lib.hid hq
  clear h hok hm hq
  generalize hl : l.length = m at *
  have HM := Lib.hid hl
  clear hl
  have H0 : Hid (whr q l 0 = whr q (l.drop 0) ((0 : Nat) : Int)) := rfl
  go_enter Tryz.func29, Tryz.ntmps29
  go_wp2
  go_loopw [9] (fun i wr => ∃ k : Nat, k ≤ m ∧ i = .int .i64 k ∧ Hid (Below w.heap.size w wr) ∧ Hid (whr q l 0 = whr q (l.drop k) (k : Int))) (fun i _ => m - (intOf i).toNat)
  case atStart => exact ⟨0, Nat.zero_le _, rfl, Lib.hid (Below.refl _ _), H0⟩
  case round =>
    obtain ⟨k, hk, rfl, HB, HX⟩ := hrel
    by_cases hlt : k < m
    · obtain ⟨bI, off, r, rfl, hbI, hget, hdrop, g0, g1, g2, g3, g4, g5, g6, g7⟩ := H.out.row HB.out hlt
      have hok := HOK.out r (List.mem_of_getElem? hget)
      have sps := fun w a m => run_store Tryz.prog w a _ m hok.ps
      have sms := fun w a m => run_store Tryz.prog w a _ m hok.ms
      have sfn := fun w a m => run_store Tryz.prog w a _ m hok.fn
      have hps := hok.ps
      have hms := hok.ms
      have hfn := hok.fn
      have hmem := List.mem_of_getElem? hget
      have HQR := Lib.hid (fun W hW => HQ.out r hmem W hW)
      have hbn : bI < wr.heap.size := by have := HB.out.size; omega
      have HX2 := Lib.hid (show whr q l 0 = whr q (r :: l.drop (k + 1)) (k : Int) by rw [← hdrop]; exact HX.out)
      clear hok hget hdrop hbI HX hmem
      go_wp2_with fail
      refine (HQR.out _ (HB.out.trans ((box1 wr _ _).mono HB.out.size))).mono ?_
      rintro e w1 ⟨rfl, hb1⟩
      have HB1 := Lib.hid (HB.out.trans (((box1 wr _ _).trans (hb1.mono (by simp))).mono HB.out.size))
      clear hb1
      cases hp : q r with
      | true =>
        have HV := Lib.hid (show whr q l 0 = (k : Int) by rw [HX2.out]; simp [whr, hp])
        go_wp2
        go_ret
        exact ⟨by rw [HV.out]; rfl, HB1.out⟩
      | false =>
        have HV := Lib.hid (show whr q l 0 = whr q (l.drop (k + 1)) ((k + 1 : Nat) : Int) by rw [HX2.out]; simp [whr, hp])
        go_wp2
        go_roundw
        case rel => exact ⟨k + 1, by omega, by go_num, HB1, HV⟩
        case measure => simp [intOf]; omega
    · obtain rfl : k = m := by omega
      have HV := Lib.hid (show whr q l 0 = -1 by rw [HX.out, List.drop_eq_nil_of_le (by rw [HM.out]; exact Nat.le_refl _)]; rfl)
      go_wp2
      go_ret
      exact ⟨by rw [HV.out]; rfl, HB.out⟩

set_option maxRecDepth 100000 in
theorem whereMP_any (l : List PRow) (v : Value) (w : World) (q : PRow → Bool) (h : RdP w l v) (hok : ∀ r, r ∈ l → KP r) (hn : l.length ≤ 1000000) (hq : ∀ r, r ∈ l → ∀ W, Below w.heap.size w W → Calls Tryz.prog 33 #[pV r] W (FitP (q r) W)) :
    Calls Tryz.prog 32 #[v, .func (.func 33) #[] #[]] w fun e w' => e = .returned (.int .i64 (whr q l 0)) ∧ Below w.heap.size w w' := by
  obtain ⟨A, c, rfl, hm⟩ := h.form
  have H := Lib.hid h
  have HOK := Lib.hid hok
  have HQ := Lib.hid hq
  clear h hok hm hq
  generalize hl : l.length = m at *
  have HM := Lib.hid hl
  clear hl
  have H0 : Hid (whr q l 0 = whr q (l.drop 0) ((0 : Nat) : Int)) := rfl
  go_enter Tryz.func32, Tryz.ntmps32
  go_wp2
  go_loopw [9] (fun i wr => ∃ k : Nat, k ≤ m ∧ i = .int .i64 k ∧ Hid (Below w.heap.size w wr) ∧ Hid (whr q l 0 = whr q (l.drop k) (k : Int))) (fun i _ => m - (intOf i).toNat)
  case atStart => exact ⟨0, Nat.zero_le _, rfl, Lib.hid (Below.refl _ _), H0⟩
  case round =>
    obtain ⟨k, hk, rfl, HB, HX⟩ := hrel
    by_cases hlt : k < m
    · obtain ⟨bI, off, r, rfl, hbI, hget, hdrop, g0, g1, g2⟩ := H.out.row HB.out hlt
      have hok := HOK.out r (List.mem_of_getElem? hget)
      have sv := fun w a m => run_store Tryz.prog w a _ m hok.2
      have hv := hok.2
      have hmem := List.mem_of_getElem? hget
      have HQR := Lib.hid (fun W hW => HQ.out r hmem W hW)
      have hbn : bI < wr.heap.size := by have := HB.out.size; omega
      have HX2 := Lib.hid (show whr q l 0 = whr q (r :: l.drop (k + 1)) (k : Int) by rw [← hdrop]; exact HX.out)
      clear hok hget hdrop hbI HX hmem
      go_wp2_with fail
      refine (HQR.out _ (HB.out.trans ((box1 wr _ _).mono HB.out.size))).mono ?_
      rintro e w1 ⟨rfl, hb1⟩
      have HB1 := Lib.hid (HB.out.trans (((box1 wr _ _).trans (hb1.mono (by simp))).mono HB.out.size))
      clear hb1
      cases hp : q r with
      | true =>
        have HV := Lib.hid (show whr q l 0 = (k : Int) by rw [HX2.out]; simp [whr, hp])
        go_wp2
        go_ret
        exact ⟨by rw [HV.out]; rfl, HB1.out⟩
      | false =>
        have HV := Lib.hid (show whr q l 0 = whr q (l.drop (k + 1)) ((k + 1 : Nat) : Int) by rw [HX2.out]; simp [whr, hp])
        go_wp2
        go_roundw
        case rel => exact ⟨k + 1, by omega, by go_num, HB1, HV⟩
        case measure => simp [intOf]; omega
    · obtain rfl : k = m := by omega
      have HV := Lib.hid (show whr q l 0 = -1 by rw [HX.out, List.drop_eq_nil_of_le (by rw [HM.out]; exact Nat.le_refl _)]; rfl)
      go_wp2
      go_ret
      exact ⟨by rw [HV.out]; rfl, HB.out⟩
end Go.Proofs.YtahidclhplmkiaaGreatDoor
