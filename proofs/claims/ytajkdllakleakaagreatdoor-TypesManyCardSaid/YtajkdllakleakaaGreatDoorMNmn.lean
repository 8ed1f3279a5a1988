/- Package num: Parse; package atom: integers and decimal numbers with short fractions: when they are valid. -/
import Derived.Test.YtajkdllakleakaaGreatDoorMNmj
namespace Go.Proofs.YtajkdllakleakaaGreatDoor
open Go.RowKit
set_option linter.unusedVariables false
set_option linter.unusedSimpArgs false

theorem parseR_len (l : List UInt8) : (words (parseR l).2.2).length ≤ 1000 := by
  unfold parseR
  split
  · rw [words_zero]; exact Nat.zero_le _
  · split
    · rw [words_zero]; exact Nat.zero_le _
    · split
      · rw [words_zero]; exact Nat.zero_le _
      · rename_i h
        have h0 : pVal l < 10 ^ 50 := by omega
        have h1 : (10 : Nat) ^ 50 ≤ bs ^ 50 := Nat.pow_le_pow_left (by unfold bs; omega) 50
        have := words_len_lt (pVal l) 50 (by omega)
        show (words (pVal l)).length ≤ 1000
        omega
theorem numParse_any (l : List UInt8) (w : World) (hf : (pFrac l).length ≤ 20) :
    Calls Tryz.prog 77 #[.string ⟨l.toArray⟩] w fun e w' => e = .returned (.tuple #[.string ⟨(ParseR l).1.toArray⟩, .int .i64 (ParseR l).2]) ∧ Below w.heap.size w w' := by
  have HL := Lib.hid (parseR_len l)
  have HP := Lib.hid (show ParseR l = if (parseR l).1 = 0 then (textL (parseR l).2.1 (parseR l).2.2, 0) else ([], (parseR l).1) from rfl)
  have HPA := Lib.hid (fun W => parse_any l W hf)
  unfold ParseQ at HPA
  clear hf
  generalize parseR l = q at *
  obtain ⟨er, neg, d⟩ := q
  simp only at HL HP HPA
  go_enter Tryz.func77, Tryz.ntmps77
  go_wp2_with fail
  refine (HPA.out _).mono ?_
  rintro e w1 ⟨v, rfl, hr, hb⟩
  have HR := Lib.hid hr
  have HB := Lib.hid hb
  have hz := hb.size
  obtain ⟨A, c, rfl, -, -⟩ := hr
  have HR2 := Lib.hid (HR.out.below ((Below.refl _ _).alloc (Nat.le_refl _) (.cells #[.bool neg, .slice A (words d).length c] 177)))
  clear hb HPA
  by_cases he : er = 0
  · subst he
    generalize hn : (words d).length = n at *
    have HN := Lib.hid hn
    clear hn
    go_wp2_with fail
    refine (text_any neg d _ _ HR2.out (by have := HN.out; have := HL.out; omega)).mono ?_
    rintro e w2 ⟨rfl, hb2⟩
    have B2 := Lib.hid (Below.trans HB.out (Below.mono (below_to hb2) hz))
    clear hb2
    go_wp2
    go_ret2
    exact ⟨by rw [HP.out]; rfl, B2.out⟩
  · have he1 : (er != 0) = true := by simpa using he
    go_wp2
    go_ret2
    exact ⟨by rw [HP.out, if_neg he]; rfl, HB.out.alloc hz _⟩

theorem done_any (s : ByteArray) (e0 : Int) (w : World) :
    Calls Tryz.prog 76 #[.string s, .int .i64 e0] w fun e w' => e = .returned (.tuple #[.string s, .bool (e0 == 0)]) ∧ w = w' := by
  go_enter Tryz.func76, Tryz.ntmps76
  go_wp2
  go_ret2
  exact ⟨rfl, rfl⟩

/-- How integers and decimal numbers are read. -/
def decR (l : List UInt8) : List UInt8 × Bool := ((ParseR l).1, (ParseR l).2 == 0)
def wholeR (l : List UInt8) : List UInt8 × Bool := if 0 ≤ Lib.indexByte l 46 then ([], false) else decR l
theorem decRead_any (l : List UInt8) (w : World) (hf : (pFrac l).length ≤ 20) :
    Calls Tryz.prog 75 #[.string ⟨l.toArray⟩] w fun e w' => e = .returned (.tuple #[.string ⟨(decR l).1.toArray⟩, .bool (decR l).2]) ∧ Below w.heap.size w w' := by
  have HF := Lib.hid hf
  clear hf
  go_enter Tryz.func75, Tryz.ntmps75
  go_wp2_with fail
  refine (numParse_any l w HF.out).mono ?_
  rintro e w1 ⟨rfl, hb⟩
  have HB := Lib.hid hb
  clear hb
  go_wp2_with (go_at_call 76; refine (done_any _ _ _).mono ?_; rintro e w' ⟨rfl, rfl⟩)
  go_ret2
  exact ⟨rfl, HB.out⟩
theorem wholeRead_any (l : List UInt8) (w : World) (hf : (pFrac l).length ≤ 20) :
    Calls Tryz.prog 74 #[.string ⟨l.toArray⟩] w fun e w' => e = .returned (.tuple #[.string ⟨(wholeR l).1.toArray⟩, .bool (wholeR l).2]) ∧ Below w.heap.size w w' := by
  have HF := Lib.hid hf
  have hC := fun W => Tryz.strings_Contains_one ⟨l.toArray⟩ 46 W
  rw [bytes_eq] at hC
  clear hf
  by_cases hc : 0 ≤ Lib.indexByte l 46
  · have HW := Lib.hid (show wholeR l = ([], false) by unfold wholeR; rw [if_pos hc])
    have hd : decide (0 ≤ Lib.indexByte l 46) = true := by simpa using hc
    rw [hd] at hC
    have HC := Lib.hid hC
    clear hC hd hc
    go_enter Tryz.func74, Tryz.ntmps74
    go_wp2_with (go_at_call 88; refine (HC.out _).mono ?_; rintro e w' ⟨rfl, rfl⟩)
    go_ret2
    exact ⟨by rw [HW.out]; rfl, Below.refl _ _⟩
  · have HW := Lib.hid (show wholeR l = decR l by unfold wholeR; rw [if_neg hc])
    have hd : decide (0 ≤ Lib.indexByte l 46) = false := by simpa using hc
    rw [hd] at hC
    have HC := Lib.hid hC
    clear hC hd hc
    go_enter Tryz.func74, Tryz.ntmps74
    go_wp2_with fail
    refine (HC.out _).mono ?_
    rintro e w' ⟨rfl, rfl⟩
    go_wp2_with fail
    refine (numParse_any l w' HF.out).mono ?_
    rintro e w1 ⟨rfl, hb⟩
    have HB := Lib.hid hb
    clear hb
    go_wp2_with (go_at_call 76; refine (done_any _ _ _).mono ?_; rintro e w' ⟨rfl, rfl⟩)
    go_ret2
    exact ⟨by rw [HW.out]; rfl, HB.out⟩
end Go.Proofs.YtajkdllakleakaaGreatDoor
