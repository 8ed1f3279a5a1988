/- Chapter 16: expr.PrintType tells which types are valid; types.Check (printed by gen_pt.py). -/
import Derived.Deep.QuietTactic
import Derived.BigQuiet
import Derived.Test.YtajkdllakleakaaGreatDoorM8
namespace Go.Proofs.YtajkdllakleakaaGreatDoor
open Go.RowKit
set_option linter.unusedVariables false
set_option linter.unusedSimpArgs false

theorem tab_at {w W : World} {g n j : Nat} (h : TabW w g n) (hb : Below w.heap.size w W) (hj : j < n) : ∃ s : ByteArray, W.cell? ⟨g, j, none⟩ = some (.string s) ∧ s.size ≤ 1000 := (h.below hb).at_ j hj
theorem sz1 (c : UInt8) : ({ data := #[c] } : ByteArray).size = 1 := rfl
set_option maxRecDepth 100000 in
set_option maxHeartbeats 1000000 in
theorem test_any (tk : Int) (nm : ByteArray) (w : World) (ht : Tabs w) (hs : nm.size ≤ 1000000) (h1 : 2 ≤ tk) (h2 : tk ≤ 8) :
    Calls Tryz.prog 21 #[.agg #[.int .i64 tk, .string nm]] w fun e w' => (∃ s : ByteArray, e = .returned (.string s) ∧ s.size ≤ 2000000) ∧ Below w.heap.size w w' := by
  have hk : tk = 2 ∨ tk = 3 ∨ tk = 4 ∨ tk = 5 ∨ tk = 6 ∨ tk = 7 ∨ tk = 8 := by omega
  have hadd := fun (W : World) (a b : ByteArray) (h : a.size + b.size ≤ 9223372036854775807) => run_string_add_sum (P := Tryz.prog) W a b h
  rcases hk with rfl | rfl | rfl | rfl | rfl | rfl | rfl
  · obtain ⟨s0, hs0, hz0⟩ := tab_at ht.t (box1 w 35 #[.int .i64 2, .string nm]) (show 0 < 7 by omega)
    have ha : ((s0 ++ { data := #[40] }).size : Int) ≤ 8388608 := by rw [ByteArray.size_append, sz1]; omega
    go_enter Tryz.func21, Tryz.ntmps21
    go_wp2_with fail
    go_quiet (fail)
    go_wp2
    go_ret
    exact ⟨⟨_, rfl, by rw [ByteArray.size_append, ByteArray.size_append, ByteArray.size_append, sz1, sz1]; omega⟩, bel_dn (box1 _ _ _) _⟩
  · obtain ⟨s0, hs0, hz0⟩ := tab_at ht.t (box1 w 35 #[.int .i64 3, .string nm]) (show 1 < 7 by omega)
    have ha : ((s0 ++ { data := #[40] }).size : Int) ≤ 8388608 := by rw [ByteArray.size_append, sz1]; omega
    go_enter Tryz.func21, Tryz.ntmps21
    go_wp2_with fail
    go_quiet (fail)
    go_wp2
    go_ret
    exact ⟨⟨_, rfl, by rw [ByteArray.size_append, ByteArray.size_append, ByteArray.size_append, sz1, sz1]; omega⟩, bel_dn (box1 _ _ _) _⟩
  · obtain ⟨s0, hs0, hz0⟩ := tab_at ht.t (box1 w 35 #[.int .i64 4, .string nm]) (show 2 < 7 by omega)
    have ha : ((s0 ++ { data := #[40] }).size : Int) ≤ 8388608 := by rw [ByteArray.size_append, sz1]; omega
    go_enter Tryz.func21, Tryz.ntmps21
    go_wp2_with fail
    go_quiet (fail)
    go_wp2
    go_ret
    exact ⟨⟨_, rfl, by rw [ByteArray.size_append, ByteArray.size_append, ByteArray.size_append, sz1, sz1]; omega⟩, bel_dn (box1 _ _ _) _⟩
  · obtain ⟨s0, hs0, hz0⟩ := tab_at ht.t (box1 w 35 #[.int .i64 5, .string nm]) (show 3 < 7 by omega)
    have ha : ((s0 ++ { data := #[40] }).size : Int) ≤ 8388608 := by rw [ByteArray.size_append, sz1]; omega
    go_enter Tryz.func21, Tryz.ntmps21
    go_wp2_with fail
    go_quiet (fail)
    go_wp2
    go_ret
    exact ⟨⟨_, rfl, by rw [ByteArray.size_append, ByteArray.size_append, ByteArray.size_append, sz1, sz1]; omega⟩, bel_dn (box1 _ _ _) _⟩
  · obtain ⟨s0, hs0, hz0⟩ := tab_at ht.t (box1 w 35 #[.int .i64 6, .string nm]) (show 4 < 7 by omega)
    have ha : ((s0 ++ { data := #[40] }).size : Int) ≤ 8388608 := by rw [ByteArray.size_append, sz1]; omega
    go_enter Tryz.func21, Tryz.ntmps21
    go_wp2_with fail
    go_quiet (fail)
    go_wp2
    go_ret
    exact ⟨⟨_, rfl, by rw [ByteArray.size_append, ByteArray.size_append, ByteArray.size_append, sz1, sz1]; omega⟩, bel_dn (box1 _ _ _) _⟩
  · obtain ⟨s0, hs0, hz0⟩ := tab_at ht.t (box1 w 35 #[.int .i64 7, .string nm]) (show 5 < 7 by omega)
    have ha : ((s0 ++ { data := #[40] }).size : Int) ≤ 8388608 := by rw [ByteArray.size_append, sz1]; omega
    go_enter Tryz.func21, Tryz.ntmps21
    go_wp2_with fail
    go_quiet (fail)
    go_wp2
    go_ret
    exact ⟨⟨_, rfl, by rw [ByteArray.size_append, ByteArray.size_append, ByteArray.size_append, sz1, sz1]; omega⟩, bel_dn (box1 _ _ _) _⟩
  · obtain ⟨s0, hs0, hz0⟩ := tab_at ht.t (box1 w 35 #[.int .i64 8, .string nm]) (show 6 < 7 by omega)
    have ha : ((s0 ++ { data := #[40] }).size : Int) ≤ 8388608 := by rw [ByteArray.size_append, sz1]; omega
    go_enter Tryz.func21, Tryz.ntmps21
    go_wp2_with fail
    go_quiet (fail)
    go_wp2
    go_ret
    exact ⟨⟨_, rfl, by rw [ByteArray.size_append, ByteArray.size_append, ByteArray.size_append, sz1, sz1]; omega⟩, bel_dn (box1 _ _ _) _⟩
/-- What PrintType says of a type. -/
def PrtP (b : Bool) (w : World) (e : Ending) (w' : World) : Prop := (∃ s : ByteArray, e = .returned (.tuple #[.string s, .int .i64 (if b = true then 0 else 1)])) ∧ Below w.heap.size w w'
theorem typeB_parts {k a tk : Int} {nm oc : ByteArray} (h : typeB ⟨k, a, tk, nm, oc⟩ = true) : oc.size ≤ 1 ∧ 0 ≤ k ∧ k ≤ 8 ∧ (k = 2 → 0 ≤ a ∧ a < 11) ∧ (k = 5 → 2 ≤ tk ∧ tk ≤ 8) := by
  unfold typeB at h
  simp only [Bool.and_eq_true, decide_eq_true_eq] at h
  obtain ⟨⟨⟨⟨⟨h1, h2⟩, h3⟩, h4⟩, h5⟩, h6⟩ := h
  refine ⟨?_, h2, h3, fun e => ?_, fun e => ?_⟩
  · simp only [occB, Bool.or_eq_true, decide_eq_true_eq] at h1
    rcases h1 with ((rfl | rfl) | rfl) | rfl <;> decide
  · subst e
    simpa using h6
  · subst e
    simp only [show ¬ (5 : Int) = 1 by omega, show ¬ (5 : Int) = 2 by omega, if_false, if_true, Bool.and_eq_true, decide_eq_true_eq] at h6
    refine ⟨h6.1, ?_⟩
    have h7 := h6.2
    unfold testB at h7
    simp only at h7
    split at h7
    · omega
    · split at h7
      · omega
      · simp only [Bool.and_eq_true, decide_eq_true_eq] at h7; omega
set_option maxRecDepth 100000 in
set_option maxHeartbeats 4000000 in
theorem printType_any (t : TyP) (w : World) (ht : Tabs w) (hs : t.nm.size ≤ 1000000) :
    Calls Tryz.prog 8 #[tyV t] w (PrtP (typeB t) w) := by
  obtain ⟨k, a, tk, nm, oc⟩ := t
  have HV : Hid (∀ W, Calls Tryz.prog 20 #[.agg #[.int .i64 k, .int .i64 a, .int .i64 tk, .string nm, .string oc]] W fun e w' => e = .returned (.bool (typeB ⟨k, a, tk, nm, oc⟩)) ∧ Below W.heap.size W w') := Lib.hid fun W => validType_any ⟨k, a, tk, nm, oc⟩ W hs
  have HTP : Hid (typeB ⟨k, a, tk, nm, oc⟩ = true → oc.size ≤ 1 ∧ 0 ≤ k ∧ k ≤ 8 ∧ (k = 2 → 0 ≤ a ∧ a < 11) ∧ (k = 5 → 2 ≤ tk ∧ tk ≤ 8)) := Lib.hid typeB_parts
  have hadd := fun (W : World) (a b : ByteArray) (h : a.size + b.size ≤ 9223372036854775807) => run_string_add_sum (P := Tryz.prog) W a b h
  simp only at hs
  have HT := Lib.hid ht
  have HS := Lib.hid hs
  clear ht hs
  unfold tyV
  simp only
  generalize typeB ⟨k, a, tk, nm, oc⟩ = b at *
  go_enter Tryz.func8, Tryz.ntmps8
  go_wp2_with fail
  refine (HV.out _).mono ?_
  rintro e w1 ⟨rfl, hb⟩
  have HB := Lib.hid ((box1 w _ _).trans (hb.mono (by simp)))
  have HX := Lib.hid ((hb.block w.heap.size (by simp)).trans (hp_new (w := w) (o := .cells #[.int .i64 k, .int .i64 a, .int .i64 tk, .string nm, .string oc] 37) rfl))
  clear hb HV
  have hlt : w.heap.size < w1.heap.size := (Array.getElem?_eq_some_iff.1 HX.out).1
  have c0 : w1.cell? ⟨w.heap.size, 0, none⟩ = some (.int .i64 k) := cell_of_row _ _ 0 _ _ _ HX.out
  have c1 : w1.cell? ⟨w.heap.size, 1, none⟩ = some (.int .i64 a) := cell_of_row _ _ 1 _ _ _ HX.out
  have c2 : w1.cell? ⟨w.heap.size, 2, none⟩ = some (.int .i64 tk) := cell_of_row _ _ 2 _ _ _ HX.out
  have c3 : w1.cell? ⟨w.heap.size, 3, none⟩ = some (.string nm) := cell_of_row _ _ 3 _ _ _ HX.out
  have c4 : w1.cell? ⟨w.heap.size, 4, none⟩ = some (.string oc) := cell_of_row _ _ 4 _ _ _ HX.out
  cases b with
  | false =>
    go_wp2
    go_ret2
    exact ⟨⟨_, rfl⟩, HB.out⟩
  | true =>
    obtain ⟨ho, hk0, hk8, hk2, hk5⟩ := HTP.out rfl
    have ho' : (oc.size : Int) ≤ 8388608 := by omega
    clear HTP
    have hk : k = 0 ∨ k = 1 ∨ k = 2 ∨ k = 3 ∨ k = 4 ∨ k = 5 ∨ k = 6 ∨ k = 7 ∨ k = 8 := by omega
    rcases hk with rfl | rfl | rfl | rfl | rfl | rfl | rfl | rfl | rfl
    · go_wp2
      go_ret2
      exact ⟨⟨_, rfl⟩, HB.out⟩
    · go_wp2
      go_ret2
      exact ⟨⟨_, rfl⟩, HB.out⟩
    · obtain ⟨h1, h2⟩ := hk2 rfl
      obtain ⟨j, rfl⟩ : ∃ j : Nat, a = (j : Int) := ⟨a.toNat, by omega⟩
      have hj : j < 11 := by omega
      obtain ⟨s0, hs0, hz0⟩ := tab_at HT.out.a HB.out hj
      have hz : (s0.size : Int) ≤ 8388608 := by omega
      clear hk2 hk5
      go_wp2
      go_ret2
      exact ⟨⟨_, rfl⟩, HB.out⟩
    · go_wp2
      go_ret2
      exact ⟨⟨_, rfl⟩, HB.out⟩
    · go_wp2
      go_ret2
      exact ⟨⟨_, rfl⟩, HB.out⟩
    · obtain ⟨h1, h2⟩ := hk5 rfl
      go_wp2_with fail
      refine (test_any tk nm _ (HT.out.below HB.out) HS.out h1 h2).mono ?_
      rintro e w2 ⟨⟨s, rfl, hsz⟩, hb2⟩
      have d4 := (hb2.cell (p := ⟨w.heap.size, 4, none⟩) hlt).trans c4
      have HB2 := Lib.hid (HB.out.trans (hb2.mono HB.out.size))
      have hz : (s.size : Int) ≤ 8388608 := by omega
      clear hb2
      go_wp2
      go_ret2
      exact ⟨⟨_, rfl⟩, HB2.out⟩
    · go_wp2
      go_ret2
      exact ⟨⟨_, rfl⟩, HB.out⟩
    · go_wp2
      go_ret2
      exact ⟨⟨_, rfl⟩, HB.out⟩
    · go_wp2
      go_ret2
      exact ⟨⟨_, rfl⟩, HB.out⟩

def ChkP (b : Bool) (w : World) (e : Ending) (w' : World) : Prop := e = .returned (.int .i64 (if b = true then 0 else 1)) ∧ Below w.heap.size w w'
set_option maxRecDepth 100000 in
theorem check_any (t : TyP) (w : World) (ht : Tabs w) (hs : t.nm.size ≤ 1000000) : Calls Tryz.prog 9 #[tyV t] w (ChkP (typeB t) w) := by
  obtain ⟨k, a, tk, nm, oc⟩ := t
  have HV : Hid (∀ W, Below w.heap.size w W → Calls Tryz.prog 8 #[.agg #[.int .i64 k, .int .i64 a, .int .i64 tk, .string nm, .string oc]] W (PrtP (typeB ⟨k, a, tk, nm, oc⟩) W)) := Lib.hid fun W hW => printType_any ⟨k, a, tk, nm, oc⟩ W (ht.below hW) hs
  clear ht hs
  unfold tyV
  simp only
  generalize typeB ⟨k, a, tk, nm, oc⟩ = b at *
  go_enter Tryz.func9, Tryz.ntmps9
  go_wp2_with fail
  refine (HV.out _ (box1 _ _ _)).mono ?_
  rintro e w1 ⟨⟨s, rfl⟩, hb⟩
  have HB := Lib.hid ((box1 w _ _).trans (hb.mono (by simp)))
  clear hb HV
  cases b
  all_goals
    go_wp2
    go_ret
    exact ⟨rfl, HB.out⟩
end Go.Proofs.YtajkdllakleakaaGreatDoor
/- Chapter 16: types.Sub tells what 'subB' says (printed by gen_sub.py). -/
namespace Go.Proofs.YtajkdllakleakaaGreatDoor
open Go.RowKit
set_option linter.unusedVariables false
set_option linter.unusedSimpArgs false

theorem number_any (k : Int) (w : World) : Calls Tryz.prog 29 #[.int .i64 k] w fun e w' => e = .returned (.bool (numB k)) ∧ w = w' := by
  go_enter Tryz.func29, Tryz.ntmps29
  go_wp2
  all_goals go_ret
  all_goals exact ⟨rB (by simp only [numB]; grind), rfl⟩
def BndP (t : TyP) (w : World) (e : Ending) (w' : World) : Prop := e = .returned (.tuple #[.int .i64 ((bndB t).1 : Nat), .int .i64 ((bndB t).2.1 : Nat), .bool (bndB t).2.2]) ∧ Below w.heap.size w w'
set_option maxRecDepth 100000 in
theorem bounds_any (t : TyP) (w : World) : Calls Tryz.prog 22 #[tyV t] w (BndP t w) := by
  obtain ⟨k, a, tk, nm, oc⟩ := t
  unfold tyV BndP
  simp only
  by_cases h1 : k = 1
  · subst h1
    go_enter Tryz.func22, Tryz.ntmps22
    go_wp2
    go_ret3
    exact ⟨by simp [bndB], box1 _ _ _⟩
  · have e1 : (k == 1) = false := by simpa using h1
    by_cases o63 : oc = { data := #[63] }
    · subst o63
      go_enter Tryz.func22, Tryz.ntmps22
      go_wp2
      go_ret3
      exact ⟨by simp [bndB, h1], box1 _ _ _⟩
    by_cases o42 : oc = { data := #[42] }
    · subst o42
      go_enter Tryz.func22, Tryz.ntmps22
      go_wp2
      go_ret3
      exact ⟨by simp [bndB, h1], box1 _ _ _⟩
    by_cases o43 : oc = { data := #[43] }
    · subst o43
      go_enter Tryz.func22, Tryz.ntmps22
      go_wp2
      go_ret3
      exact ⟨by simp [bndB, h1], box1 _ _ _⟩
    have e63 : ¬ oc.toList = [63] := fun e => o63 ((tl_one oc 63).1 e)
    have e42 : ¬ oc.toList = [42] := fun e => o42 ((tl_one oc 42).1 e)
    have e43 : ¬ oc.toList = [43] := fun e => o43 ((tl_one oc 43).1 e)
    have f63 : (oc.toList == [63]) = false := by simpa using e63
    have f42 : (oc.toList == [42]) = false := by simpa using e42
    have f43 : (oc.toList == [43]) = false := by simpa using e43
    go_enter Tryz.func22, Tryz.ntmps22
    go_wp2
    go_ret3
    exact ⟨by simp [bndB, h1, o63, o42, o43], box1 _ _ _⟩
set_option maxRecDepth 100000 in
theorem typ_eq (k a tk k' a' tk' : Int) (nm nm' : ByteArray) (w : World) : (binOp .eql 37 (.agg #[.int .i64 k, .int .i64 a, .int .i64 tk, .string nm, .string { data := #[] }]) (.agg #[.int .i64 k', .int .i64 a', .int .i64 tk', .string nm', .string { data := #[] }])).run Tryz.prog w = .ok (.bool (sameT ⟨k, a, tk, nm, nS⟩ ⟨k', a', tk', nm', nS⟩)) w := by
  have hS : Tryz.prog.underlying 37 = some (.struct (Tryz.prog.fieldsOf 37)) := by kernel_rfl
  have hp : Tryz.prog.stoodInHeld 37 = false := by kernel_rfl
  have hS2 : Tryz.prog.underlying 35 = some (.struct (Tryz.prog.fieldsOf 35)) := by kernel_rfl
  have hp2 : Tryz.prog.stoodInHeld 35 = false := by kernel_rfl
  have hN : ∀ W : World, (Op.equalIn 9999 35 (.agg #[.int .i64 tk, .string nm]) (.agg #[.int .i64 tk', .string nm'])).run Tryz.prog W = .ok (decide (tk = tk') && decide (nm = nm')) W := fun W => by
    rw [show (9999 : Nat) = 9998 + 1 from rfl, run_equalIn_agg W 9998 35 _ _ hS2 hp2]
    simp only [Program.fieldsOf, Tryz.underlying35]
    go_simp
    by_cases h3 : tk = tk'
    · by_cases h4 : nm = nm'
      · simp [h3, h4]
      · have h5 : ¬ nm.toList = nm'.toList := fun e => h4 (bl_inj.1 e)
        simp [h3, h4, h5]
    · simp [h3]
  clear hS2 hp2
  rw [run_eql_struct, show (10000 : Nat) = 9999 + 1 from rfl, run_equalIn_agg w 9999 37 _ _ hS hp]
  simp only [Program.fieldsOf, Tryz.underlying37]
  go_simp
  unfold sameT
  simp only
  by_cases h1 : k = k'
  · by_cases h2 : a = a'
    · by_cases h3 : tk = tk'
      · by_cases h4 : nm = nm'
        · simp [h1, h2, h3, h4]
        · have h5 : ¬ nm.toList = nm'.toList := fun e => h4 (bl_inj.1 e)
          simp [h1, h2, h3, h4, h5]
      · simp [h1, h2, h3]
    · simp [h1, h2]
  · simp [h1]
theorem bel2 (w : World) (cs ds : Array Value) (t u : TypeId) : Below w.heap.size w ((w.alloc (.cells cs t)).alloc (.cells ds u)) := ((Below.refl _ w).alloc (Nat.le_refl _) _).alloc (by simp) _
set_option maxRecDepth 100000 in
set_option maxHeartbeats 4000000 in
theorem inside_any (t u : TyP) (w : World) : Calls Tryz.prog 23 #[tyV t, tyV u] w fun e w' => e = .returned (.bool (insideB t u)) ∧ Below w.heap.size w w' := by
  obtain ⟨k, a, tk, nm, oc⟩ := t
  obtain ⟨k', a', tk', nm', oc'⟩ := u
  unfold tyV
  simp only
  have hq := fun W => typ_eq k a tk k' a' tk' nm nm' W
  cases hsm : sameT ⟨k, a, tk, nm, nS⟩ ⟨k', a', tk', nm', nS⟩ with
  | true =>
    simp only [hsm] at hq
    have hs2 : sameT ⟨k, a, tk, nm, oc⟩ ⟨k', a', tk', nm', oc'⟩ = true := hsm
    go_enter Tryz.func23, Tryz.ntmps23
    go_wp2_with (go_at_call 29; refine (number_any _ _).mono ?_; rintro e w' ⟨rfl, rfl⟩)
    go_ret
    exact ⟨rB (by simp [insideB, hs2]), bel2 _ _ _ _ _⟩
  | false =>
    simp only [hsm] at hq
    have hs2 : sameT ⟨k, a, tk, nm, oc⟩ ⟨k', a', tk', nm', oc'⟩ = false := hsm
    clear hsm
    by_cases h1 : k = 1
    · subst h1
      go_enter Tryz.func23, Tryz.ntmps23
      go_wp2_with (go_at_call 29; refine (number_any _ _).mono ?_; rintro e w' ⟨rfl, rfl⟩)
      go_ret
      exact ⟨rB (by simp [insideB, hs2]), bel2 _ _ _ _ _⟩
    · have h1e : (k == 1) = false := by simpa using h1
      by_cases g0 : k' = 0
      · subst g0
        go_enter Tryz.func23, Tryz.ntmps23
        go_wp2_with (go_at_call 29; refine (number_any _ _).mono ?_; rintro e w' ⟨rfl, rfl⟩)
        go_ret
        exact ⟨rB (by simp [insideB, hs2, h1]), bel2 _ _ _ _ _⟩
      · have g0e : (k' == 0) = false := by simpa using g0
        by_cases h2 : k = 2
        · subst h2
          by_cases g2 : k' = 2
          · subst g2
            by_cases x3 : a = 3
            · subst x3
              by_cases y4 : a' = 4
              · subst y4
                go_enter Tryz.func23, Tryz.ntmps23
                go_wp2_with (go_at_call 29; refine (number_any _ _).mono ?_; rintro e w' ⟨rfl, rfl⟩)
                go_ret
                exact ⟨rB (by simp [insideB, hs2]), bel2 _ _ _ _ _⟩
              · have y4e : (a' == 4) = false := by simpa using y4
                go_enter Tryz.func23, Tryz.ntmps23
                go_wp2_with (go_at_call 29; refine (number_any _ _).mono ?_; rintro e w' ⟨rfl, rfl⟩)
                go_ret
                exact ⟨rB (by simp [insideB, hs2, y4]), bel2 _ _ _ _ _⟩
            · have x3e : (a == 3) = false := by simpa using x3
              go_enter Tryz.func23, Tryz.ntmps23
              go_wp2_with (go_at_call 29; refine (number_any _ _).mono ?_; rintro e w' ⟨rfl, rfl⟩)
              go_ret
              exact ⟨rB (by simp [insideB, hs2, x3]), bel2 _ _ _ _ _⟩
          · have g2e : (k' == 2) = false := by simpa using g2
            by_cases g4 : k' = 4
            · subst g4
              go_enter Tryz.func23, Tryz.ntmps23
              go_wp2_with (go_at_call 29; refine (number_any _ _).mono ?_; rintro e w' ⟨rfl, rfl⟩)
              go_ret
              exact ⟨rB (by simp [insideB, hs2, numB]), bel2 _ _ _ _ _⟩
            · have g4e : (k' == 4) = false := by simpa using g4
              by_cases g3 : k' = 3
              · subst g3
                go_enter Tryz.func23, Tryz.ntmps23
                go_wp2_with (go_at_call 29; refine (number_any _ _).mono ?_; rintro e w' ⟨rfl, rfl⟩)
                go_ret
                exact ⟨rB (by simp [insideB, hs2]), bel2 _ _ _ _ _⟩
              · have g3e : (k' == 3) = false := by simpa using g3
                go_enter Tryz.func23, Tryz.ntmps23
                go_wp2_with (go_at_call 29; refine (number_any _ _).mono ?_; rintro e w' ⟨rfl, rfl⟩)
                go_ret
                exact ⟨rB (by simp [insideB, hs2, g0, g2, g4, g3]), bel2 _ _ _ _ _⟩
        · have h2e : (k == 2) = false := by simpa using h2
          by_cases h4 : k = 4
          · subst h4
            by_cases g3 : k' = 3
            · subst g3
              go_enter Tryz.func23, Tryz.ntmps23
              go_wp2_with (go_at_call 29; refine (number_any _ _).mono ?_; rintro e w' ⟨rfl, rfl⟩)
              go_ret
              exact ⟨rB (by simp [insideB, hs2]), bel2 _ _ _ _ _⟩
            · have g3e : (k' == 3) = false := by simpa using g3
              go_enter Tryz.func23, Tryz.ntmps23
              go_wp2_with (go_at_call 29; refine (number_any _ _).mono ?_; rintro e w' ⟨rfl, rfl⟩)
              go_ret
              exact ⟨rB (by simp [insideB, hs2, g0, g3]), bel2 _ _ _ _ _⟩
          · have h4e : (k == 4) = false := by simpa using h4
            by_cases h5 : k = 5
            · subst h5
              by_cases g5 : k' = 5
              · subst g5
                by_cases x2 : tk' = 2
                · subst x2
                  go_enter Tryz.func23, Tryz.ntmps23
                  go_wp2_with (go_at_call 29; refine (number_any _ _).mono ?_; rintro e w' ⟨rfl, rfl⟩)
                  go_ret
                  exact ⟨rB (by simp [insideB, hs2]), bel2 _ _ _ _ _⟩
                · have x2e : (tk' == 2) = false := by simpa using x2
                  by_cases y : tk' = tk
                  · subst y
                    by_cases n0 : nm' = nS
                    · subst n0
                      go_enter Tryz.func23, Tryz.ntmps23
                      go_wp2_with (go_at_call 29; refine (number_any _ _).mono ?_; rintro e w' ⟨rfl, rfl⟩)
                      go_ret
                      exact ⟨rB (by simp [insideB, hs2, x2]), bel2 _ _ _ _ _⟩
                    · have n1 : nm'.toList.isEmpty = false := by rw [tl_empty]; simpa using fun e => n0 (size_nil e)
                      have n2 : ¬ nm'.toList = [] := fun e => n0 ((tl_nil nm').1 e)
                      go_enter Tryz.func23, Tryz.ntmps23
                      go_wp2_with (go_at_call 29; refine (number_any _ _).mono ?_; rintro e w' ⟨rfl, rfl⟩)
                      go_ret
                      exact ⟨rB (by simp [insideB, hs2, x2, n0]), bel2 _ _ _ _ _⟩
                  · have ye : (tk' == tk) = false := by simpa using y
                    go_enter Tryz.func23, Tryz.ntmps23
                    go_wp2_with (go_at_call 29; refine (number_any _ _).mono ?_; rintro e w' ⟨rfl, rfl⟩)
                    go_ret
                    exact ⟨rB (by simp [insideB, hs2, x2, y]), bel2 _ _ _ _ _⟩
              · have g5e : (k' == 5) = false := by simpa using g5
                go_enter Tryz.func23, Tryz.ntmps23
                go_wp2_with (go_at_call 29; refine (number_any _ _).mono ?_; rintro e w' ⟨rfl, rfl⟩)
                go_ret
                exact ⟨rB (by simp [insideB, hs2, g0, g5]), bel2 _ _ _ _ _⟩
            · have h5e : (k == 5) = false := by simpa using h5
              go_enter Tryz.func23, Tryz.ntmps23
              go_wp2_with (go_at_call 29; refine (number_any _ _).mono ?_; rintro e w' ⟨rfl, rfl⟩)
              go_ret
              exact ⟨rB (by simp [insideB, hs2, h1, g0, h2, h4, h5]), bel2 _ _ _ _ _⟩
theorem cells5 {W : World} {X : Nat} {t : TypeId} {a0 a1 a2 a3 a4 : Value} (h : W.heap[X]? = some (.cells #[a0, a1, a2, a3, a4] t (0, 0))) : W.cell? ⟨X, 0, none⟩ = some a0 ∧ W.cell? ⟨X, 1, none⟩ = some a1 ∧ W.cell? ⟨X, 2, none⟩ = some a2 ∧ W.cell? ⟨X, 3, none⟩ = some a3 ∧ W.cell? ⟨X, 4, none⟩ = some a4 :=
  ⟨cell_of_row W X 0 _ _ _ h, cell_of_row W X 1 _ _ _ h, cell_of_row W X 2 _ _ _ h, cell_of_row W X 3 _ _ _ h, cell_of_row W X 4 _ _ _ h⟩
theorem le_dec (a b : Nat) : decide ((b : Int) ≤ (a : Int)) = decide (b ≤ a) := by simp
set_option maxRecDepth 100000 in
set_option maxHeartbeats 4000000 in
theorem sub_any (t u : TyP) (w : World) (ht : Tabs w) (hs : t.nm.size ≤ 1000000) (hs' : u.nm.size ≤ 1000000) : Calls Tryz.prog 10 #[tyV t, tyV u] w fun e w' => e = .returned (.bool (subB typeB t u)) ∧ Below w.heap.size w w' := by
  have HCt : Hid (∀ W, Below w.heap.size w W → Calls Tryz.prog 9 #[tyV t] W (ChkP (typeB t) W)) := Lib.hid fun W hW => check_any t W (ht.below hW) hs
  have HCu : Hid (∀ W, Below w.heap.size w W → Calls Tryz.prog 9 #[tyV u] W (ChkP (typeB u) W)) := Lib.hid fun W hW => check_any u W (ht.below hW) hs'
  have HBt : Hid (∀ W, Calls Tryz.prog 22 #[tyV t] W (BndP t W)) := Lib.hid fun W => bounds_any t W
  have HBu : Hid (∀ W, Calls Tryz.prog 22 #[tyV u] W (BndP u W)) := Lib.hid fun W => bounds_any u W
  have HI : Hid (∀ W, Calls Tryz.prog 23 #[tyV t, tyV u] W fun e w' => e = .returned (.bool (insideB t u)) ∧ Below W.heap.size W w') := Lib.hid fun W => inside_any t u W
  clear ht hs hs'
  obtain ⟨k, a, tk, nm, oc⟩ := t
  obtain ⟨k', a', tk', nm', oc'⟩ := u
  unfold subB
  unfold tyV at *
  simp only at HCt HCu HBt HBu HI ⊢
  unfold ChkP BndP at *
  generalize typeB ⟨k, a, tk, nm, oc⟩ = vt at *
  generalize typeB ⟨k', a', tk', nm', oc'⟩ = vu at *
  generalize insideB ⟨k, a, tk, nm, oc⟩ ⟨k', a', tk', nm', oc'⟩ = ins at *
  generalize bndB ⟨k, a, tk, nm, oc⟩ = B1 at *
  generalize bndB ⟨k', a', tk', nm', oc'⟩ = B2 at *
  obtain ⟨p1, q1, m1⟩ := B1
  obtain ⟨p2, q2, m2⟩ := B2
  simp only at HBt HBu ⊢
  go_enter Tryz.func10, Tryz.ntmps10
  go_wp2_with fail
  have hb0 := bel2 w #[.int .i64 k, .int .i64 a, .int .i64 tk, .string nm, .string oc] #[.int .i64 k', .int .i64 a', .int .i64 tk', .string nm', .string oc'] 37 37
  refine (HCt.out _ hb0).mono ?_
  rintro e w1 ⟨rfl, hb1⟩
  have HB1 := Lib.hid (hb0.trans (hb1.mono (by simp <;> omega)))
  have HX := Lib.hid ((hb1.block w.heap.size (by simp <;> omega)).trans (hp_past (o := .cells #[.int .i64 k', .int .i64 a', .int .i64 tk', .string nm', .string oc'] 37) (hp_new (w := w) (o := .cells #[.int .i64 k, .int .i64 a, .int .i64 tk, .string nm, .string oc] 37) rfl)))
  have HY := Lib.hid ((hb1.block (w.heap.size + 1) (by simp)).trans (hp_new (w := w.alloc (.cells #[.int .i64 k, .int .i64 a, .int .i64 tk, .string nm, .string oc] 37)) (o := .cells #[.int .i64 k', .int .i64 a', .int .i64 tk', .string nm', .string oc'] 37) (by simp)))
  have lt1 : w.heap.size + 1 < w1.heap.size := (Array.getElem?_eq_some_iff.1 HY.out).1
  clear hb0 hb1
  obtain ⟨a0, a1, a2, a3, a4⟩ := cells5 HX.out
  obtain ⟨b0, b1, b2, b3, b4⟩ := cells5 HY.out
  cases vt with
  | false =>
    go_wp2
    all_goals go_ret
    all_goals exact ⟨rB (by simp), HB1.out⟩
  | true =>
    go_wp2_with fail
    refine (HCu.out _ HB1.out).mono ?_
    rintro e w2 ⟨rfl, hb⟩
    have HB2 := Lib.hid (HB1.out.trans (hb.mono HB1.out.size))
    have HX2 := Lib.hid ((hb.block _ (by omega)).trans HX.out)
    have HY2 := Lib.hid ((hb.block _ lt1).trans HY.out)
    have lt2 : w.heap.size + 1 < w2.heap.size := (Array.getElem?_eq_some_iff.1 HY2.out).1
    clear hb a0 a1 a2 a3 a4 b0 b1 b2 b3 b4 HX HY lt1 HB1 HCt HCu
    obtain ⟨a0, a1, a2, a3, a4⟩ := cells5 HX2.out
    obtain ⟨b0, b1, b2, b3, b4⟩ := cells5 HY2.out
    cases vu with
    | false =>
      go_wp2
      all_goals go_ret
      all_goals exact ⟨rB (by simp), HB2.out⟩
    | true =>
      go_wp2_with fail
      refine (HBt.out _).mono ?_
      rintro e w3 ⟨rfl, hb⟩
      have HB3 := Lib.hid (HB2.out.trans (hb.mono HB2.out.size))
      have HX3 := Lib.hid ((hb.block _ (by omega)).trans HX2.out)
      have HY3 := Lib.hid ((hb.block _ lt2).trans HY2.out)
      have lt3 : w.heap.size + 1 < w3.heap.size := (Array.getElem?_eq_some_iff.1 HY3.out).1
      clear hb a0 a1 a2 a3 a4 b0 b1 b2 b3 b4 HX2 HY2 lt2 HB2 HBt
      obtain ⟨a0, a1, a2, a3, a4⟩ := cells5 HX3.out
      obtain ⟨b0, b1, b2, b3, b4⟩ := cells5 HY3.out
      go_wp2_with fail
      refine (HBu.out _).mono ?_
      rintro e w4 ⟨rfl, hb⟩
      have HB4 := Lib.hid (HB3.out.trans (hb.mono HB3.out.size))
      have HX4 := Lib.hid ((hb.block _ (by omega)).trans HX3.out)
      have HY4 := Lib.hid ((hb.block _ lt3).trans HY3.out)
      clear hb a0 a1 a2 a3 a4 b0 b1 b2 b3 b4 HX3 HY3 lt3 HB3 HBu
      obtain ⟨a0, a1, a2, a3, a4⟩ := cells5 HX4.out
      obtain ⟨b0, b1, b2, b3, b4⟩ := cells5 HY4.out
      by_cases hk : k = 1
      · subst hk
        by_cases hz : p2 = 0
        · subst hz
          go_wp2
          go_ret
          exact ⟨rB rfl, HB4.out⟩
        · have hze : ((p2 : Int) == 0) = false := by simpa using hz
          have hz2 : ¬ (p2 : Int) = 0 := by omega
          go_wp2
          go_ret
          exact ⟨rB (by simp [hz]), HB4.out⟩
      · have hke : (k == 1) = false := by simpa using hk
        go_wp2_with fail
        refine (HI.out _).mono ?_
        rintro e w5 ⟨rfl, hb⟩
        have HB5 := Lib.hid (HB4.out.trans (hb.mono HB4.out.size))
        clear hb a0 a1 a2 a3 a4 b0 b1 b2 b3 b4 HX4 HY4 HB4 HI
        cases ins with
        | false =>
          go_wp2
          go_ret
          exact ⟨rB (by simp [hk]), HB5.out⟩
        | true =>
          by_cases hp : p2 ≤ p1
          · have hp' : (p2 : Int) ≤ (p1 : Int) := by omega
            cases m2 with
            | true =>
              go_wp2
              go_ret
              exact ⟨rB (by simp [hk, hp]), HB5.out⟩
            | false =>
              cases m1 with
              | true =>
                go_wp2
                go_ret
                exact ⟨rB (by simp [hk, hp]), HB5.out⟩
              | false =>
                by_cases hz : q1 ≤ q2
                · have hz' : (q1 : Int) ≤ (q2 : Int) := by omega
                  go_wp2
                  go_ret
                  exact ⟨rB (by simp [hk, hp, hz]), HB5.out⟩
                · have hz' : (q2 : Int) < (q1 : Int) := by omega
                  go_wp2
                  go_ret
                  exact ⟨rB (by simp [hk, hp, hz]), HB5.out⟩
          · have hp' : (p1 : Int) < (p2 : Int) := by omega
            go_wp2
            go_ret
            exact ⟨rB (by simp [hk, hp]), HB5.out⟩
end Go.Proofs.YtajkdllakleakaaGreatDoor
