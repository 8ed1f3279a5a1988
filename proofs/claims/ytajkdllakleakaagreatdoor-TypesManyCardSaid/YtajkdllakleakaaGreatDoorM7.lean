/- Package chars: what is a name. -/
import Derived.Test.YtajkdllakleakaaGreatDoorM6
import Derived.Test.YtajkdllakleakaaGreatDoorTxt
import Derived.Test.YtajkdllakleakaaGreatDoorSh
namespace Go.Proofs.YtajkdllakleakaaGreatDoor
open Go.RowKit
set_option linter.unusedVariables false
set_option linter.unusedSimpArgs false

/-- Can a name begin with a character? -/
def letB (c : Int) : Bool := (decide (97 ≤ c) && decide (c ≤ 122)) || (decide (65 ≤ c) && decide (c ≤ 90)) || c == 95 || (decide (192 ≤ c) && !(c == 215) && !(c == 247))
theorem isLetter_any (c : Int) (w : World) :
    Calls Tryz.prog 116 #[.int .i32 c] w fun e w' => e = .returned (.bool (letB c)) ∧ w = w' := by
  go_enter Tryz.func116, Tryz.ntmps116
  go_wp2
  all_goals go_ret
  all_goals exact ⟨ret_bool (by simp only [letB]; grind), rfl⟩
def moreB (c : Int) : Bool := c == 45 || c == 46 || c == 183 || (decide (48 ≤ c) && decide (c ≤ 57))
/-- Is the rune at place i of a string one of a part of a name? -/
def prtAt (s : ByteArray) (i : Nat) : Bool := letB (Utf8.decode s i).1 || (!decide (i = 0) && moreB (Utf8.decode s i).1)
def prtFrom (s : ByteArray) : Nat → Nat → Bool
  | 0, _ => true
  | f + 1, i => if i < s.size then prtAt s i && prtFrom s f (i + (Utf8.decode s i).2) else true
def partB (s : ByteArray) : Bool := prtFrom s s.size 0 && !decide (s.size = 0)
theorem prtFrom_end (s : ByteArray) (b pos : Nat) (h : ¬ pos < s.size) : prtFrom s b pos = true := by
  cases b with
  | zero => rfl
  | succ b => simp [prtFrom, h]
theorem bl_inj {s t : ByteArray} : s.toList = t.toList ↔ s = t := by
  rw [ByteArray.toList_eq, ByteArray.toList_eq]
  constructor
  · intro h; exact str_of _ _ h
  · intro h; rw [h]
theorem tl_empty (s : ByteArray) : s.toList.isEmpty = decide (s.size = 0) := by
  rw [ByteArray.toList_eq]
  cases h : s.data.toList with
  | nil =>
    have : s.data.toList.length = 0 := by rw [h]; rfl
    have h2 : s.size = 0 := by rw [Array.length_toList] at this; exact this
    simp [h2]
  | cons a l =>
    have : s.data.toList.length = l.length + 1 := by rw [h]; rfl
    have h2 : s.size = l.length + 1 := by rw [Array.length_toList] at this; exact this
    simp [h2]

set_option maxRecDepth 100000 in
theorem isNamePart_any (s : ByteArray) (w : World) (hs : s.size ≤ 1000000) :
    Calls Tryz.prog 70 #[.string s] w fun e w' => e = .returned (.bool (partB s)) ∧ Below w.heap.size w w' := by
  go_enter Tryz.func70, Tryz.ntmps70
  go_wp2
  go_loopw [] (fun w' => ∃ (pos b : Nat), w' = w.iter s pos ∧ prtFrom s b pos = prtFrom s s.size 0 ∧ s.size ≤ pos + b) (fun w' => s.size - w'.iterPos w.heap.size)
  case atStart => exact ⟨0, s.size, rfl, rfl, by omega⟩
  case round =>
    obtain ⟨pos, b, rfl, hc, hb⟩ := hrel
    have HC := Lib.hid hc
    clear hc
    by_cases hp : pos < s.size
    · have hnx : ∀ ty, (Instr.next (.pointer (some ⟨w.heap.size, 0, none⟩)) true ty).run Tryz.prog (w.iter s pos) = _ := fun ty => run_next_any w s pos ty hp
      have hwd := width_pos s pos hp
      go_wp2_with (go_at_call 116; refine (isLetter_any _ _).mono ?_; rintro e w' ⟨rfl, rfl⟩)
      all_goals first
        | (go_roundw
           case rel =>
             cases b with
             | zero => omega
             | succ b =>
               refine ⟨_, b, rfl, ?_, by omega⟩
               rw [← HC.out]
               simp only [prtFrom, if_pos hp]
               rw [show prtAt s pos = true from by unfold prtAt moreB; grind, Bool.true_and]
           case measure => simp; omega)
        | (go_ret
           refine ⟨ret_bool ?_, (Below.refl _ _).alloc (Nat.le_refl _) _⟩
           unfold partB
           rw [← HC.out]
           cases b with
           | zero => omega
           | succ b =>
             simp only [prtFrom, if_pos hp]
             rw [show prtAt s pos = false from by unfold prtAt moreB; grind, Bool.false_and, Bool.false_and])
    · have hnx : ∀ ty, (Instr.next (.pointer (some ⟨w.heap.size, 0, none⟩)) true ty).run Tryz.prog (w.iter s pos) = _ := fun ty => run_next_end w s pos ty hp
      go_wp2
      go_ret
      refine ⟨ret_bool ?_, (Below.refl _ _).alloc (Nat.le_refl _) _⟩
      unfold partB
      rw [← HC.out, prtFrom_end s b pos hp, Bool.true_and, ← tl_empty]
/-- Is a text a name? -/
def nameB (s : ByteArray) : Bool :=
  isTextB s && !decide ((100 : Int) < Lib.runeCount s) && partB ⟨(Lib.cut s.data.toList [58]).1.toArray⟩ && (!(Lib.cut s.data.toList [58]).2.2 || partB ⟨(Lib.cut s.data.toList [58]).2.1.toArray⟩)
end Go.Proofs.YtajkdllakleakaaGreatDoor
/- Package chars: IsName tells what is a name. -/
namespace Go.Proofs.YtajkdllakleakaaGreatDoor
open Go.RowKit
set_option linter.unusedVariables false
set_option linter.unusedSimpArgs false

theorem cut_sizes (s : ByteArray) (c : UInt8) : (Lib.cut s.data.toList [c]).1.length ≤ s.size ∧ (Lib.cut s.data.toList [c]).2.1.length ≤ s.size := by
  have hsl : s.data.toList.length = s.size := by rw [Array.length_toList]; rfl
  unfold Lib.cut
  rw [index_one]
  split
  · simp only [List.length_take, List.length_drop]; omega
  · simp only [List.length_nil]; omega
set_option maxRecDepth 100000 in
theorem isName_any (s : ByteArray) (w : World) (hs : s.size ≤ 1000000) :
    Calls Tryz.prog 55 #[.string s] w fun e w' => e = .returned (.bool (nameB s)) ∧ Below w.heap.size w w' := by
  have HP : Hid (∀ t : ByteArray, t.size ≤ 1000000 → ∀ W, Calls Tryz.prog 70 #[.string t] W fun e w' => e = .returned (.bool (partB t)) ∧ Below W.heap.size W w') := Lib.hid fun t ht W => isNamePart_any t W ht
  have HT := Lib.hid (isText_any s w (by omega))
  have HC : Hid (∀ W, Calls Tryz.prog 69 #[.string s, .string ⟨#[58]⟩] W (CutQ s 58 W)) := Lib.hid fun W => scut_any s 58 W hs
  have HR : Hid (∀ W, Calls Tryz.prog 68 #[.string s] W fun e w' => e = .returned (.int .i64 (Lib.runeCount s)) ∧ ∃ pos, w' = W.iter s pos) := Lib.hid fun W => Tryz.utf8_RuneCountInString s W (by omega)
  obtain ⟨c1, c2⟩ := cut_sizes s 58
  have HN : Hid (nameB s = (isTextB s && !decide ((100 : Int) < Lib.runeCount s) && partB ⟨(Lib.cut s.data.toList [58]).1.toArray⟩ && (!(Lib.cut s.data.toList [58]).2.2 || partB ⟨(Lib.cut s.data.toList [58]).2.1.toArray⟩))) := Lib.hid rfl
  have HC2 : Hid (∀ W, Calls Tryz.prog 69 #[.string s, .string ⟨#[58]⟩] W fun e w' => e = .returned (.tuple #[.string ⟨(Lib.cut s.data.toList [58]).1.toArray⟩, .string ⟨(Lib.cut s.data.toList [58]).2.1.toArray⟩, .bool (Lib.cut s.data.toList [58]).2.2]) ∧ Below W.heap.size W w') := HC
  clear HC
  generalize isTextB s = b1 at *
  generalize Lib.runeCount s = n at *
  have f1 : (⟨(Lib.cut s.data.toList [58]).1.toArray⟩ : ByteArray).size ≤ 1000000 := by show (Lib.cut s.data.toList [58]).1.toArray.size ≤ _; simp; omega
  have f2 : (⟨(Lib.cut s.data.toList [58]).2.1.toArray⟩ : ByteArray).size ≤ 1000000 := by show (Lib.cut s.data.toList [58]).2.1.toArray.size ≤ _; simp; omega
  generalize (⟨(Lib.cut s.data.toList [58]).1.toArray⟩ : ByteArray) = x1 at *
  generalize (⟨(Lib.cut s.data.toList [58]).2.1.toArray⟩ : ByteArray) = x2 at *
  generalize (Lib.cut s.data.toList [58]).2.2 = two at *
  clear c1 c2
  rw [HN.out]
  clear HN
  go_enter Tryz.func55, Tryz.ntmps55
  go_wp2_with fail
  refine HT.out.mono ?_
  rintro e w1 ⟨rfl, pos, rfl⟩
  have HB1 : Hid (Below w.heap.size w (w.iter s pos)) := Lib.hid ((Below.refl _ _).alloc (Nat.le_refl _) _)
  generalize w.iter s pos = w1 at *
  cases b1 with
  | false => 
    go_wp2
    go_ret
    exact ⟨rB (by simp), HB1.out⟩
  | true =>
    go_wp2_with fail
    refine (HR.out _).mono ?_
    rintro e w2 ⟨rfl, pos2, rfl⟩
    have HB2 : Hid (Below w.heap.size w (w1.iter s pos2)) := Lib.hid (HB1.out.alloc HB1.out.size _)
    generalize w1.iter s pos2 = w2 at *
    clear HB1
    by_cases hn : (100 : Int) < n
    · go_wp2
      go_ret
      exact ⟨rB (by simp [hn]), HB2.out⟩
    · go_wp2_with fail
      refine (HC2.out _).mono ?_
      rintro e w3 ⟨rfl, hb⟩
      have HB3 := Lib.hid (HB2.out.trans (hb.mono HB2.out.size))
      clear hb HB2
      go_wp2_with fail
      refine (HP.out x1 f1 _).mono ?_
      rintro e w4 ⟨rfl, hb⟩
      have HB4 := Lib.hid (HB3.out.trans (hb.mono HB3.out.size))
      clear hb HB3
      cases hp : partB x1 with
      | false =>
        go_wp2
        go_ret
        exact ⟨rB (by simp [hn, hp]), HB4.out⟩
      | true =>
        cases two with
        | false =>
          go_wp2
          go_ret
          exact ⟨rB (by simp [hn, hp]), HB4.out⟩
        | true =>
          go_wp2_with fail
          refine (HP.out x2 f2 _).mono ?_
          rintro e w5 ⟨rfl, hb⟩
          have HB5 := Lib.hid (HB4.out.trans (hb.mono HB4.out.size))
          clear hb
          go_wp2
          go_ret
          exact ⟨rB (by simp [hn, hp]), HB5.out⟩
end Go.Proofs.YtajkdllakleakaaGreatDoor
