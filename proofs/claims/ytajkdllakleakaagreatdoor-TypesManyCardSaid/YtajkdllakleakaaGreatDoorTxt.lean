/- Contracts of the functions on texts: what package chars says of a string. -/
import Derived.Test.YtajkdllakleakaaGreatDoorProg
import Derived.WalkKit
import Derived.WalkLawsBesides
import Derived.WalkSpells
import Derived.Handy
import Derived.Lib.Hide
namespace Go.Proofs.YtajkdllakleakaaGreatDoor
open Go.RowKit
set_option linter.unusedVariables false
set_option linter.unusedSimpArgs false

theorem ret_bool {a b : Bool} (h : a = b) : Ending.returned (.bool a) = .returned (.bool b) := by rw [h]
theorem ret_int {k : IntKind} {a b : Int} (h : a = b) : Ending.returned (.int k a) = .returned (.int k b) := by rw [h]

def strB (k : Int) : Bool := k == 0 || k == 1
theorem isString_any (k : Int) (w : World) :
    Calls Tryz.prog 56 #[.int .i64 k] w fun e w' => e = .returned (.bool (strB k)) ∧ w = w' := by
  go_enter Tryz.func56, Tryz.ntmps56
  go_wp2
  all_goals go_ret
  all_goals exact ⟨ret_bool (by simp_all [strB]), rfl⟩

/-- Is a code point a character? -/
def chB (c : Int) : Bool := c == 9 || c == 10 || c == 13 || (decide (32 ≤ c) && decide (c ≤ 55295)) || (decide (57344 ≤ c) && decide (c ≤ 65533)) || (decide (65536 ≤ c) && decide (c ≤ 1114111))
theorem isChar_any (c : Int) (w : World) :
    Calls Tryz.prog 71 #[.int .i32 c] w fun e w' => e = .returned (.bool (chB c)) ∧ w = w' := by
  go_enter Tryz.func71, Tryz.ntmps71
  go_wp2
  all_goals go_ret
  all_goals exact ⟨ret_bool (by simp only [chB]; grind), rfl⟩

def prefB (s p : ByteArray) : Bool := if p.size ≤ s.size then (s.extract 0 p.size).toList == p.toList else false
theorem hasPrefix_any (s p : ByteArray) (w : World) (hs : s.size ≤ 9223372036854775807) (hp : p.size ≤ 9223372036854775807) :
    Calls Tryz.prog 72 #[.string s, .string p] w fun e w' => e = .returned (.bool (prefB s p)) ∧ w = w' := by
  go_enter Tryz.func72, Tryz.ntmps72
  go_wp2
  all_goals go_ret
  all_goals exact ⟨ret_bool (by unfold prefB; first | rw [if_pos (by omega)] | rw [if_neg (by omega)]), rfl⟩

def fffd : ByteArray := { data := #[239, 191, 189] }
/-- Is the rune at place i of a string one of a text? -/
def okAt (s : ByteArray) (i : Nat) : Bool := chB (Utf8.decode s i).1 && !(((Utf8.decode s i).1 : Int) == 65533 && !prefB (s.extract i s.size) fffd)
def textFrom (s : ByteArray) : Nat → Nat → Bool
  | 0, _ => true
  | f + 1, i => if i < s.size then okAt s i && textFrom s f (i + (Utf8.decode s i).2) else true
def isTextB (s : ByteArray) : Bool := textFrom s s.size 0

theorem width_pos (s : ByteArray) (pos : Nat) (h : pos < s.size) : 1 ≤ (Utf8.decode s pos).2 := by
  by_cases ha : (s[pos]'h).toNat < 128
  · rw [decode_ascii s pos h ha]
    exact Nat.le_refl _
  · exact (decode_high s pos h (by omega)).2
theorem textFrom_end (s : ByteArray) (b pos : Nat) (h : ¬ pos < s.size) : textFrom s b pos = true := by
  cases b with
  | zero => rfl
  | succ b => simp [textFrom, h]

set_option maxRecDepth 100000 in
theorem isText_any (s : ByteArray) (w : World) (hs : s.size ≤ 9223372036854775807) :
    Calls Tryz.prog 57 #[.string s] w fun e w' => e = .returned (.bool (isTextB s)) ∧ ∃ pos, w' = w.iter s pos := by
  go_enter Tryz.func57, Tryz.ntmps57
  go_wp2
  go_loopw [] (fun w' => ∃ (pos b : Nat), w' = w.iter s pos ∧ textFrom s b pos = isTextB s ∧ s.size ≤ pos + b) (fun w' => s.size - w'.iterPos w.heap.size)
  case atStart => exact ⟨0, s.size, rfl, rfl, by omega⟩
  case round =>
    obtain ⟨pos, b, rfl, hc, hb⟩ := hrel
    have HC := Lib.hid hc
    clear hc
    by_cases hp : pos < s.size
    · have hnx : ∀ ty, (Instr.next (.pointer (some ⟨w.heap.size, 0, none⟩)) true ty).run Tryz.prog (w.iter s pos) = _ := fun ty => run_next_any w s pos ty hp
      have hwd := width_pos s pos hp
      have HP := Lib.hid (fun w => hasPrefix_any (s.extract pos s.size) ⟨#[239, 191, 189]⟩ w (by simp; omega) (by decide))
      go_wp2_with (first | (go_at_call 71; refine (isChar_any _ _).mono ?_; rintro e w' ⟨rfl, rfl⟩) | (go_at_call 72; refine (HP.out _).mono ?_; rintro e w' ⟨rfl, rfl⟩))
      all_goals first
        | (go_roundw
           case rel =>
             cases b with
             | zero => omega
             | succ b =>
               refine ⟨_, b, rfl, ?_, by omega⟩
               rw [← HC.out]
               simp_all [textFrom, okAt, fffd]
           case measure => simp; omega)
        | (go_ret
           refine ⟨ret_bool ?_, _, rfl⟩
           rw [← HC.out]
           cases b with
           | zero => omega
           | succ b => simp_all [textFrom, okAt, fffd])
    · have hnx : ∀ ty, (Instr.next (.pointer (some ⟨w.heap.size, 0, none⟩)) true ty).run Tryz.prog (w.iter s pos) = _ := fun ty => run_next_end w s pos ty hp
      go_wp2
      go_ret
      exact ⟨ret_bool (by rw [← HC.out, textFrom_end s b pos hp]), _, rfl⟩
end Go.Proofs.YtajkdllakleakaaGreatDoor
