/- Chapter 16: which types are valid: package expr's validTest, validType. -/
import Derived.Test.YtajkdllakleakaaGreatDoorM7
import Derived.Test.YtajkdllakleakaaGreatDoorTo
import Derived.Test.YtajkdllakleakaaGreatDoorTl
import Derived.Test.YtajkdllakleakaaGreatDoorM3
namespace Go.Proofs.YtajkdllakleakaaGreatDoor
open Go.RowKit
set_option linter.unusedVariables false
set_option linter.unusedSimpArgs false

def tyV (t : TyP) : Value := .agg #[.int .i64 t.k, .int .i64 t.a, .int .i64 t.tk, .string t.nm, .string t.oc]
def teV (t : TyP) : Value := .agg #[.int .i64 t.tk, .string t.nm]
theorem size_nil {s : ByteArray} (h : s.size = 0) : s = nS := by
  refine str_of _ _ ?_
  have : s.data.toList.length = 0 := by rw [Array.length_toList]; exact h
  rw [List.length_eq_zero_iff.1 this]
theorem bl_eq (s t : ByteArray) : (s.toList == t.toList) = decide (s = t) := by
  by_cases h : s = t
  · subst h; simp
  · have : s.toList ≠ t.toList := fun e => h (bl_inj.1 e)
    simp [h, this]
def testB (t : TyP) : Bool := if t.tk = 1 then nameB t.nm else if t.tk = 7 ∨ t.tk = 8 then decide (t.nm = nS) || nameB t.nm else decide (0 ≤ t.tk) && decide (t.tk ≤ 8) && decide (t.nm = nS)
def occB (t : TyP) : Bool := decide (t.oc = nS) || decide (t.oc = { data := #[63] }) || decide (t.oc = { data := #[42] }) || decide (t.oc = { data := #[43] })
def typeB (t : TyP) : Bool :=
  occB t && decide (0 ≤ t.k) && decide (t.k ≤ 8) && (decide (t.k = 2) || decide (t.a = 0)) && (decide (t.k = 5) || (decide (t.tk = 0) && decide (t.nm = nS))) &&
    (if t.k = 1 then decide (t.oc = nS) else if t.k = 2 then decide (0 ≤ t.a) && decide (t.a < 11) else if t.k = 5 then decide (2 ≤ t.tk) && testB t else true)
set_option maxRecDepth 100000 in
theorem validTest_any (t : TyP) (w : World) (hs : t.nm.size ≤ 1000000) :
    Calls Tryz.prog 42 #[teV t] w fun e w' => e = .returned (.bool (testB t)) ∧ Below w.heap.size w w' := by
  obtain ⟨k, a, tk, nm, oc⟩ := t
  simp only at hs
  have HN : Hid (∀ W, Calls Tryz.prog 55 #[.string nm] W fun e w' => e = .returned (.bool (nameB nm)) ∧ Below W.heap.size W w') := Lib.hid fun W => isName_any nm W hs
  clear hs
  unfold teV testB
  simp only
  by_cases h1 : tk = 1
  · subst h1
    go_enter Tryz.func42, Tryz.ntmps42
    go_wp2_with (go_at_call 55; refine (HN.out _).mono ?_; rintro e w' ⟨rfl, hb⟩; have HB := Lib.hid ((box1 w _ _).trans (hb.mono (by simp))); clear hb)
    go_ret
    exact ⟨rB (by simp), HB.out⟩
  by_cases h7 : tk = 7
  · subst h7
    by_cases hn : nm = nS
    · subst hn
      go_enter Tryz.func42, Tryz.ntmps42
      go_wp2_with (go_at_call 55; refine (HN.out _).mono ?_; rintro e w' ⟨rfl, hb⟩; have HB := Lib.hid ((box1 w _ _).trans (hb.mono (by simp))); clear hb)
      go_ret
      exact ⟨rB (by simp), box1 _ _ _⟩
    · have hm : nm.toList.isEmpty = false := by rw [tl_empty]; simpa using fun e => hn (size_nil e)
      go_enter Tryz.func42, Tryz.ntmps42
      go_wp2_with (go_at_call 55; refine (HN.out _).mono ?_; rintro e w' ⟨rfl, hb⟩; have HB := Lib.hid ((box1 w _ _).trans (hb.mono (by simp))); clear hb)
      go_ret
      exact ⟨rB (by simp [hn]), HB.out⟩
  by_cases h8 : tk = 8
  · subst h8
    by_cases hn : nm = nS
    · subst hn
      go_enter Tryz.func42, Tryz.ntmps42
      go_wp2_with (go_at_call 55; refine (HN.out _).mono ?_; rintro e w' ⟨rfl, hb⟩; have HB := Lib.hid ((box1 w _ _).trans (hb.mono (by simp))); clear hb)
      go_ret
      exact ⟨rB (by simp), box1 _ _ _⟩
    · have hm : nm.toList.isEmpty = false := by rw [tl_empty]; simpa using fun e => hn (size_nil e)
      go_enter Tryz.func42, Tryz.ntmps42
      go_wp2_with (go_at_call 55; refine (HN.out _).mono ?_; rintro e w' ⟨rfl, hb⟩; have HB := Lib.hid ((box1 w _ _).trans (hb.mono (by simp))); clear hb)
      go_ret
      exact ⟨rB (by simp [hn]), HB.out⟩
  have e1 : (tk == 1) = false := by simpa using h1
  have e7 : (tk == 7) = false := by simpa using h7
  have e8 : (tk == 8) = false := by simpa using h8
  by_cases h0 : 0 ≤ tk
  · by_cases h9 : tk ≤ 8
    · by_cases hn : nm = nS
      · subst hn
        go_enter Tryz.func42, Tryz.ntmps42
        go_wp2_with (go_at_call 55; refine (HN.out _).mono ?_; rintro e w' ⟨rfl, hb⟩; have HB := Lib.hid ((box1 w _ _).trans (hb.mono (by simp))); clear hb)
        go_ret
        exact ⟨rB (by simp [h1, h7, h8, h0, h9]), box1 _ _ _⟩
      · have hm : nm.toList.isEmpty = false := by rw [tl_empty]; simpa using fun e => hn (size_nil e)
        go_enter Tryz.func42, Tryz.ntmps42
        go_wp2_with (go_at_call 55; refine (HN.out _).mono ?_; rintro e w' ⟨rfl, hb⟩; have HB := Lib.hid ((box1 w _ _).trans (hb.mono (by simp))); clear hb)
        go_ret
        exact ⟨rB (by simp [h1, h7, h8, h0, h9, hn]), box1 _ _ _⟩
    · have h9' : 8 < tk := by omega
      have hq : ¬ tk ≤ 8 := h9
      go_enter Tryz.func42, Tryz.ntmps42
      go_wp2_with (go_at_call 55; refine (HN.out _).mono ?_; rintro e w' ⟨rfl, hb⟩; have HB := Lib.hid ((box1 w _ _).trans (hb.mono (by simp))); clear hb)
      go_ret
      exact ⟨rB (by simp [h1, h7, h8, h0, show decide (tk ≤ 8) = false from by simpa using h9]), box1 _ _ _⟩
  · have h0' : tk < 0 := by omega
    go_enter Tryz.func42, Tryz.ntmps42
    go_wp2_with (go_at_call 55; refine (HN.out _).mono ?_; rintro e w' ⟨rfl, hb⟩; have HB := Lib.hid ((box1 w _ _).trans (hb.mono (by simp))); clear hb)
    go_ret
    exact ⟨rB (by simp [h1, h7, h8, show decide (0 ≤ tk) = false from by simpa using h0]), box1 _ _ _⟩
end Go.Proofs.YtajkdllakleakaaGreatDoor
/- Chapter 16: which types are valid: package expr's validType (printed by gen_vt.py). -/
namespace Go.Proofs.YtajkdllakleakaaGreatDoor
open Go.RowKit
set_option linter.unusedVariables false
set_option linter.unusedSimpArgs false

theorem tl_nil (s : ByteArray) : s.toList = [] ↔ s = nS := by
  rw [← bl_inj (s := s) (t := nS), ByteArray.toList_eq nS]
theorem tl_one (s : ByteArray) (c : UInt8) : s.toList = [c] ↔ s = { data := #[c] } := by
  rw [← bl_inj (s := s) (t := { data := #[c] }), ByteArray.toList_eq { data := #[c] }]
set_option maxRecDepth 100000 in
theorem tst_neq (tk : Int) (nm : ByteArray) (w : World) : (binOp .neq 35 (.agg #[.int .i64 tk, .string nm]) (.agg #[.int .i64 0, .string { data := #[] }])).run Tryz.prog w = .ok (.bool (!(decide (tk = 0) && decide (nm = nS)))) w := by
  have hS : Tryz.prog.underlying 35 = some (.struct (Tryz.prog.fieldsOf 35)) := by kernel_rfl
  have hp : Tryz.prog.stoodInHeld 35 = false := by kernel_rfl
  rw [run_neq_struct, show (10000 : Nat) = 9999 + 1 from rfl, run_equalIn_agg w 9999 35 _ _ hS hp]
  simp only [Program.fieldsOf, Tryz.underlying35]
  go_simp
  by_cases h1 : tk = 0
  · by_cases h2 : nm = nS
    · simp [h1, h2, (tl_nil nS).2 rfl]
    · have h3 : ¬ nm.toList = [] := fun e => h2 ((tl_nil nm).1 e)
      simp [h1, h2, h3]
  · simp [h1]
set_option maxRecDepth 100000 in
set_option maxHeartbeats 2000000 in
theorem vt_occ (k a tk : Int) (nm oc : ByteArray) (w : World) (hs : nm.size ≤ 1000000) (h0 : oc ≠ nS) (h1 : oc ≠ { data := #[63] }) (h2 : oc ≠ { data := #[42] }) (h3 : oc ≠ { data := #[43] }) : Calls Tryz.prog 20 #[tyV ⟨k, a, tk, nm, oc⟩] w fun e w' => e = .returned (.bool (false)) ∧ Below w.heap.size w w' := by
  have e0 : oc.toList.isEmpty = false := by rw [tl_empty]; simpa using fun e => h0 (size_nil e)
  have e0' : ¬ oc.toList = [] := fun e => h0 ((tl_nil oc).1 e)
  have e1 : ¬ oc.toList = [63] := fun e => h1 ((tl_one oc 63).1 e)
  have e2 : ¬ oc.toList = [42] := fun e => h2 ((tl_one oc 42).1 e)
  have e3 : ¬ oc.toList = [43] := fun e => h3 ((tl_one oc 43).1 e)
  unfold tyV
  go_enter Tryz.func20, Tryz.ntmps20
  go_wp2
  go_ret
  exact ⟨rB (by simp), box1 _ _ _⟩
set_option maxRecDepth 100000 in
set_option maxHeartbeats 2000000 in
theorem vt_kind (k a tk : Int) (nm oc : ByteArray) (w : World) (hs : nm.size ≤ 1000000) (ho : oc = nS ∨ oc = { data := #[63] } ∨ oc = { data := #[42] } ∨ oc = { data := #[43] }) (hk : k < 0 ∨ 8 < k) : Calls Tryz.prog 20 #[tyV ⟨k, a, tk, nm, oc⟩] w fun e w' => e = .returned (.bool (false)) ∧ Below w.heap.size w w' := by
  unfold tyV
  rcases ho with rfl | rfl | rfl | rfl
  all_goals
    rcases hk with hk | hk
    all_goals
      go_enter Tryz.func20, Tryz.ntmps20
      go_wp2
      go_ret
      exact ⟨rB (by simp), box1 _ _ _⟩
set_option maxRecDepth 100000 in
set_option maxHeartbeats 2000000 in
theorem vt_atom (k a tk : Int) (nm oc : ByteArray) (w : World) (hs : nm.size ≤ 1000000) (ho : oc = nS ∨ oc = { data := #[63] } ∨ oc = { data := #[42] } ∨ oc = { data := #[43] }) (hk : 0 ≤ k) (hk2 : k ≤ 8) (hk3 : k ≠ 2) (ha : a ≠ 0) : Calls Tryz.prog 20 #[tyV ⟨k, a, tk, nm, oc⟩] w fun e w' => e = .returned (.bool (false)) ∧ Below w.heap.size w w' := by
  have e2 : (k == 2) = false := by simpa using hk3
  have ea : (a == 0) = false := by simpa using ha
  unfold tyV
  rcases ho with rfl | rfl | rfl | rfl
  all_goals
    go_enter Tryz.func20, Tryz.ntmps20
    go_wp2
    go_ret
    exact ⟨rB (by simp), box1 _ _ _⟩
set_option maxRecDepth 100000 in
set_option maxHeartbeats 2000000 in
theorem vt_test (k a tk : Int) (nm oc : ByteArray) (w : World) (hs : nm.size ≤ 1000000) (ho : oc = nS ∨ oc = { data := #[63] } ∨ oc = { data := #[42] } ∨ oc = { data := #[43] }) (hk : 0 ≤ k) (hk2 : k ≤ 8) (hk3 : k ≠ 5) (ha : k = 2 ∨ a = 0) (ht : (decide (tk = 0) && decide (nm = nS)) = false) : Calls Tryz.prog 20 #[tyV ⟨k, a, tk, nm, oc⟩] w fun e w' => e = .returned (.bool (false)) ∧ Below w.heap.size w w' := by
  have e5 : (k == 5) = false := by simpa using hk3
  have hq := fun W => tst_neq tk nm W
  simp only [ht, Bool.not_false] at hq
  unfold tyV
  rcases ho with rfl | rfl | rfl | rfl
  all_goals
    rcases ha with rfl | rfl
    · go_enter Tryz.func20, Tryz.ntmps20
      go_wp2
      go_ret
      exact ⟨rB (by simp), box1 _ _ _⟩
    · by_cases h2 : k = 2
      · subst h2
        go_enter Tryz.func20, Tryz.ntmps20
        go_wp2
        go_ret
        exact ⟨rB (by simp), box1 _ _ _⟩
      · have e2 : (k == 2) = false := by simpa using h2
        go_enter Tryz.func20, Tryz.ntmps20
        go_wp2
        go_ret
        exact ⟨rB (by simp), box1 _ _ _⟩
set_option maxRecDepth 100000 in
set_option maxHeartbeats 2000000 in
theorem vt_rest (k a tk : Int) (nm oc : ByteArray) (w : World) (hs : nm.size ≤ 1000000) (ho : oc = nS ∨ oc = { data := #[63] } ∨ oc = { data := #[42] } ∨ oc = { data := #[43] }) (hk : 0 ≤ k) (hk2 : k ≤ 8) (h1 : k ≠ 1) (h2 : k ≠ 2) (h5 : k ≠ 5) (ha : a = 0) (ht : (decide (tk = 0) && decide (nm = nS)) = true) : Calls Tryz.prog 20 #[tyV ⟨k, a, tk, nm, oc⟩] w fun e w' => e = .returned (.bool (true)) ∧ Below w.heap.size w w' := by
  have e1 : (k == 1) = false := by simpa using h1
  have e2 : (k == 2) = false := by simpa using h2
  have e5 : (k == 5) = false := by simpa using h5
  have hq := fun W => tst_neq tk nm W
  simp only [ht, Bool.not_true] at hq
  subst ha
  unfold tyV
  rcases ho with rfl | rfl | rfl | rfl
  all_goals
    go_enter Tryz.func20, Tryz.ntmps20
    go_wp2
    go_ret
    exact ⟨rB (by simp), box1 _ _ _⟩
set_option maxRecDepth 100000 in
set_option maxHeartbeats 2000000 in
theorem vt_one (k a tk : Int) (nm oc : ByteArray) (w : World) (hs : nm.size ≤ 1000000) (ho : oc = nS ∨ oc = { data := #[63] } ∨ oc = { data := #[42] } ∨ oc = { data := #[43] }) (h1 : k = 1) (ha : a = 0) (ht : (decide (tk = 0) && decide (nm = nS)) = true) : Calls Tryz.prog 20 #[tyV ⟨k, a, tk, nm, oc⟩] w fun e w' => e = .returned (.bool (decide (oc = nS))) ∧ Below w.heap.size w w' := by
  have hq := fun W => tst_neq tk nm W
  simp only [ht, Bool.not_true] at hq
  subst ha h1
  unfold tyV
  rcases ho with rfl | rfl | rfl | rfl
  all_goals
    go_enter Tryz.func20, Tryz.ntmps20
    go_wp2
    go_ret
    exact ⟨rB (by decide), box1 _ _ _⟩
set_option maxRecDepth 100000 in
set_option maxHeartbeats 2000000 in
theorem vt_two (k a tk : Int) (nm oc : ByteArray) (w : World) (hs : nm.size ≤ 1000000) (ho : oc = nS ∨ oc = { data := #[63] } ∨ oc = { data := #[42] } ∨ oc = { data := #[43] }) (h1 : k = 2) (ht : (decide (tk = 0) && decide (nm = nS)) = true) : Calls Tryz.prog 20 #[tyV ⟨k, a, tk, nm, oc⟩] w fun e w' => e = .returned (.bool (decide (0 ≤ a) && decide (a < 11))) ∧ Below w.heap.size w w' := by
  have hq := fun W => tst_neq tk nm W
  simp only [ht, Bool.not_true] at hq
  subst h1
  unfold tyV
  rcases ho with rfl | rfl | rfl | rfl
  all_goals
    by_cases h0 : 0 ≤ a
    · by_cases h9 : a < 11
      · go_enter Tryz.func20, Tryz.ntmps20
        go_wp2
        go_ret
        exact ⟨rB (by simp [h0, h9]), box1 _ _ _⟩
      · have h9' : 11 ≤ a := by omega
        go_enter Tryz.func20, Tryz.ntmps20
        go_wp2
        go_ret
        exact ⟨rB (by simp [h0, show decide (a < 11) = false from by simpa using h9']), box1 _ _ _⟩
    · have h0' : a < 0 := by omega
      go_enter Tryz.func20, Tryz.ntmps20
      go_wp2
      go_ret
      exact ⟨rB (by simp [show decide (0 ≤ a) = false from by simpa using h0']), box1 _ _ _⟩
set_option maxRecDepth 100000 in
set_option maxHeartbeats 2000000 in
theorem vt_five (k a tk : Int) (nm oc : ByteArray) (w : World) (hs : nm.size ≤ 1000000) (ho : oc = nS ∨ oc = { data := #[63] } ∨ oc = { data := #[42] } ∨ oc = { data := #[43] }) (h1 : k = 5) (ha : a = 0) : Calls Tryz.prog 20 #[tyV ⟨k, a, tk, nm, oc⟩] w fun e w' => e = .returned (.bool (decide (2 ≤ tk) && testB ⟨k, a, tk, nm, oc⟩)) ∧ Below w.heap.size w w' := by
  have HN : Hid (∀ W, Calls Tryz.prog 42 #[.agg #[.int .i64 tk, .string nm]] W fun e w' => e = .returned (.bool (testB ⟨k, a, tk, nm, oc⟩)) ∧ Below W.heap.size W w') := Lib.hid fun W => validTest_any ⟨k, a, tk, nm, oc⟩ W hs
  subst ha h1
  unfold tyV
  rcases ho with rfl | rfl | rfl | rfl
  all_goals
    by_cases h0 : 2 ≤ tk
    · generalize testB _ = b at *
      go_enter Tryz.func20, Tryz.ntmps20
      go_wp2_with (first | (go_at_call 42; refine (HN.out _).mono ?_; rintro e w' ⟨rfl, hb⟩; have HB := Lib.hid ((box1 w _ _).trans (hb.mono (by simp))); clear hb))
      go_ret
      exact ⟨rB (by simp [h0]), HB.out⟩
    · have h0' : tk < 2 := by omega
      go_enter Tryz.func20, Tryz.ntmps20
      go_wp2_with (first | (go_at_call 42; refine (HN.out _).mono ?_; rintro e w' ⟨rfl, hb⟩; have HB := Lib.hid ((box1 w _ _).trans (hb.mono (by simp))); clear hb))
      go_ret
      exact ⟨rB (by simp [show decide (2 ≤ tk) = false from by simpa using h0']), box1 _ _ _⟩
theorem validType_any (t : TyP) (w : World) (hs : t.nm.size ≤ 1000000) :
    Calls Tryz.prog 20 #[tyV t] w fun e w' => e = .returned (.bool (typeB t)) ∧ Below w.heap.size w w' := by
  obtain ⟨k, a, tk, nm, oc⟩ := t
  have go : ∀ {b c : Bool} (_ : b = c), (Calls Tryz.prog 20 #[tyV ⟨k, a, tk, nm, oc⟩] w fun e w' => e = .returned (.bool b) ∧ Below w.heap.size w w') → Calls Tryz.prog 20 #[tyV ⟨k, a, tk, nm, oc⟩] w fun e w' => e = .returned (.bool c) ∧ Below w.heap.size w w' := fun e h => e ▸ h
  by_cases ho : oc = nS ∨ oc = { data := #[63] } ∨ oc = { data := #[42] } ∨ oc = { data := #[43] }
  · have eo : ∀ k a tk nm, occB ⟨k, a, tk, nm, oc⟩ = true := by
      intro k a tk nm
      unfold occB
      rcases ho with rfl | rfl | rfl | rfl <;> simp
    by_cases hk : 0 ≤ k ∧ k ≤ 8
    · obtain ⟨hk1, hk2⟩ := hk
      by_cases ha : k = 2 ∨ a = 0
      · by_cases ht : k = 5 ∨ (decide (tk = 0) && decide (nm = nS)) = true
        · by_cases h1 : k = 1
          · have ht' : (decide (tk = 0) && decide (nm = nS)) = true := ht.resolve_left (by omega)
            refine go ?_ (vt_one k a tk nm oc w hs ho h1 (ha.resolve_left (by omega)) ht')
            simp only [Bool.and_eq_true, decide_eq_true_eq] at ht'
            simp [typeB, eo, h1, ha.resolve_left (by omega), ht'.1, ht'.2]
          · by_cases h2 : k = 2
            · have ht' : (decide (tk = 0) && decide (nm = nS)) = true := ht.resolve_left (by omega)
              refine go ?_ (vt_two k a tk nm oc w hs ho h2 ht')
              simp only [Bool.and_eq_true, decide_eq_true_eq] at ht'
              simp [typeB, eo, h2, ht'.1, ht'.2]
            · by_cases h5 : k = 5
              · refine go ?_ (vt_five k a tk nm oc w hs ho h5 (ha.resolve_left h2))
                subst h5
                simp [typeB, eo, ha.resolve_left h2]
              · have ht' : (decide (tk = 0) && decide (nm = nS)) = true := ht.resolve_left h5
                refine go ?_ (vt_rest k a tk nm oc w hs ho hk1 hk2 h1 h2 h5 (ha.resolve_left h2) ht')
                simp only [Bool.and_eq_true, decide_eq_true_eq] at ht'
                simp [typeB, eo, h1, h2, h5, hk1, hk2, ha.resolve_left h2, ht'.1, ht'.2]
        · have ht' : (decide (tk = 0) && decide (nm = nS)) = false := by
            cases h : (decide (tk = 0) && decide (nm = nS)) with
            | false => rfl
            | true => exact absurd (.inr h) ht
          refine go ?_ (vt_test k a tk nm oc w hs ho hk1 hk2 (fun e => ht (.inl e)) ha ht')
          have h5 : decide (k = 5) = false := by simpa using fun e => ht (.inl e)
          simp [typeB, h5, ht']
      · refine go ?_ (vt_atom k a tk nm oc w hs ho hk1 hk2 (fun e => ha (.inl e)) (fun e => ha (.inr e)))
        have h2 : decide (k = 2) = false := by simpa using fun e => ha (.inl e)
        have h3 : decide (a = 0) = false := by simpa using fun e => ha (.inr e)
        simp [typeB, h2, h3]
    · refine go ?_ (vt_kind k a tk nm oc w hs ho (by omega))
      have h : (decide (0 ≤ k) && decide (k ≤ 8)) = false := by
        cases h : (decide (0 ≤ k) && decide (k ≤ 8)) with
        | false => rfl
        | true => simp only [Bool.and_eq_true, decide_eq_true_eq] at h; exact absurd h hk
      unfold typeB
      simp only
      rw [Bool.and_assoc (occB _), h]
      simp
  · simp only [not_or] at ho
    refine go ?_ (vt_occ k a tk nm oc w hs ho.1 ho.2.1 ho.2.2.1 ho.2.2.2)
    have eo : occB ⟨k, a, tk, nm, oc⟩ = false := by
      simp [occB, ho.1, ho.2.1, ho.2.2.1, ho.2.2.2]
    simp [typeB, eo]
end Go.Proofs.YtajkdllakleakaaGreatDoor
