/- Package num: powers of ten; the form of a number. -/
import Derived.Test.YtajkdllakleakaaGreatDoorMNmc
import Derived.Test.YtajkdllakleakaaGreatDoorM5
import Derived.Test.YtajkdllakleakaaGreatDoorMNme
import Derived.Test.YtajkdllakleakaaGreatDoorMNwt
import Derived.Test.YtajkdllakleakaaGreatDoorSh
import Derived.Deep.RegionWith
namespace Go.Proofs.YtajkdllakleakaaGreatDoor
open Go.RowKit
set_option linter.unusedVariables false
set_option linter.unusedSimpArgs false

theorem ten_text (n : Nat) : (({ data := #[49] } : ByteArray) ++ { data := (Lib.repeatL [48] n).toArray }).data.toList = tenS n := by
  rw [repeatL_one, ByteArray.data_append]
  simp [tenS]
theorem pow10_any (n : Nat) (w : World) (hn : n ≤ 1000) :
    Calls Tryz.prog 162 #[.int .i64 (n : Int)] w (GivesB (10 ^ n) w) := by
  have hlen : (Lib.repeatL [48] n).length ≤ 1000 := by rw [repeatL_one, List.length_replicate]; exact hn
  go_enter Tryz.func162, Tryz.ntmps162
  go_wp2_with fail
  refine (Tryz.strings_Repeat ⟨#[48]⟩ n w (by omega) (by show 1 * n ≤ _; omega)).mono ?_
  rintro e w1 ⟨rfl, hb⟩
  have HB := Lib.hid hb
  clear hb
  go_wp2_with fail
  refine (fromDigits_any _ w1 (fun c hc => tenS_dig n c (by rw [← ten_text]; exact hc)) ?_).mono ?_
  · have h1 := congrArg List.length (ten_text n)
    rw [Array.length_toList] at h1
    have h2 : (tenS n).length = n + 1 := by simp [tenS]
    rw [h2] at h1
    have : ∀ b : ByteArray, b.size = b.data.size := fun _ => rfl
    rw [this]; omega
  · rintro e w2 ⟨u, rfl, hr, hb, ho⟩
    rw [ten_text, dgv_ten] at hr
    have HR := Lib.hid hr
    have HB2 := Lib.hid (HB.out.trans (hb.mono HB.out.size))
    have HO2 := Lib.hid (fun k hk => Nat.le_trans HB.out.size (ho k hk))
    clear hr hb ho
    go_wp2
    go_ret
    exact ⟨u, rfl, HR.out, HB2.out, HO2.out⟩

/-- parse's test of a rune. -/
theorem parse1_any (x : Nat) (w : World) (hx : x ≤ 1114111) :
    Calls Tryz.prog 169 #[.int .i32 (x : Int)] w fun e w' => e = .returned (.bool (noDig x)) ∧ Below w.heap.size w w' := by
  go_enter Tryz.func169, Tryz.ntmps169
  go_wp2
  all_goals go_ret
  all_goals exact ⟨rB (by simp only [noDig]; grind), Below.refl _ _⟩
end Go.Proofs.YtajkdllakleakaaGreatDoor
/- strings.Cut at one byte; package num: parse's error cases and its number. -/
namespace Go.Proofs.YtajkdllakleakaaGreatDoor
open Go.RowKit
set_option linter.unusedVariables false
set_option linter.unusedSimpArgs false

theorem index_one (s : List UInt8) (c : UInt8) : Lib.index s [c] = Lib.indexByte s c := by
  induction s with
  | nil => rfl
  | cons a l ih =>
    unfold Lib.index Lib.indexByte
    rw [ih]
    have : ([c] : List UInt8).isPrefixOf (a :: l) = (a == c) := by
      simp [List.isPrefixOf, Bool.beq_comm]
    rw [this]
theorem indexByte_rng (s : List UInt8) (c : UInt8) : Lib.indexByte s c = -1 ∨ (0 ≤ Lib.indexByte s c ∧ Lib.indexByte s c < s.length) := by
  induction s with
  | nil => exact .inl rfl
  | cons a l ih =>
    unfold Lib.indexByte
    split
    · exact .inr ⟨by omega, by simp⟩
    · split
      · exact .inl rfl
      · rename_i h
        have h' : Lib.indexByte l c ≠ -1 := by simpa using h
        rcases ih with e | ⟨e1, e2⟩
        · exact absurd e h'
        · exact .inr ⟨by omega, by simp; omega⟩
theorem str_of (s t : ByteArray) (h : s.data.toList = t.data.toList) : s = t := by
  cases s; cases t
  rename_i a b
  cases a; cases b
  simp only at h
  rw [h]
def CutQ (s : ByteArray) (c : UInt8) (w : World) (e : Ending) (w' : World) : Prop :=
  e = .returned (.tuple #[.string ⟨(Lib.cut s.data.toList [c]).1.toArray⟩, .string ⟨(Lib.cut s.data.toList [c]).2.1.toArray⟩, .bool (Lib.cut s.data.toList [c]).2.2]) ∧ Below w.heap.size w w'
theorem cut_fin (s : ByteArray) (c : UInt8) (a b : ByteArray) (t : Bool) (h : Lib.cut s.data.toList [c] = (a.data.toList, b.data.toList, t)) :
    Ending.returned (.tuple #[.string a, .string b, .bool t]) = .returned (.tuple #[.string ⟨(Lib.cut s.data.toList [c]).1.toArray⟩, .string ⟨(Lib.cut s.data.toList [c]).2.1.toArray⟩, .bool (Lib.cut s.data.toList [c]).2.2]) := by rw [h]
theorem lcut_any (s : ByteArray) (c : UInt8) (w : World) (hs : s.size ≤ 1000000) :
    Calls Tryz.prog 115 #[.string s, .string ⟨#[c]⟩] w (CutQ s c w) := by
  have hsl : s.data.toList.length = s.size := by rw [Array.length_toList]; rfl
  have HC : Hid (∀ W, Calls Tryz.prog 166 #[.string s, .string ⟨#[c]⟩] W fun e w' => e = .returned (.int .i64 (Lib.indexByte s.data.toList c)) ∧ w' = W) := Lib.hid (fun W => Tryz.stringslite_Index_one s c W)
  have hcut : Lib.cut s.data.toList [c] = if 0 ≤ Lib.indexByte s.data.toList c then (s.data.toList.take (Lib.indexByte s.data.toList c).toNat, s.data.toList.drop ((Lib.indexByte s.data.toList c).toNat + 1), true) else (s.data.toList, [], false) := by
    unfold Lib.cut; rw [index_one]; rfl
  have hr := indexByte_rng s.data.toList c
  rw [hsl] at hr
  generalize Lib.indexByte s.data.toList c = z at *
  rcases hr with e | ⟨h1, h2⟩
  · subst e
    rw [if_neg (by decide)] at hcut
    have HCUT := Lib.hid hcut
    clear hcut hsl
    go_enter Tryz.func115, Tryz.ntmps115
    go_wp2_with (go_at_call 166; refine (HC.out _).mono ?_; rintro e w' ⟨rfl, rfl⟩)
    go_ret3
    exact ⟨cut_fin s c s ⟨#[]⟩ false HCUT.out, Below.refl _ _⟩
  · obtain ⟨i, rfl⟩ : ∃ i : Nat, z = (i : Int) := ⟨z.toNat, by omega⟩
    rw [if_pos h1, Int.toNat_natCast] at hcut
    have HCUT := Lib.hid hcut
    have hi : i < s.size := by omega
    have HSL := Lib.hid hsl
    clear hcut hsl h1 h2
    go_enter Tryz.func115, Tryz.ntmps115
    go_wp2_with (go_at_call 166; refine (HC.out _).mono ?_; rintro e w' ⟨rfl, rfl⟩)
    go_quiet (fail)
    go_wp2
    go_ret3
    refine ⟨cut_fin s c (s.extract 0 i) (s.extract (i + 1) s.size) true ?_, bel_dn (Below.refl _ _) _⟩
    rw [HCUT.out, extract_list, extract_list, List.drop_zero, Nat.sub_zero]
    congr 2
    rw [List.take_of_length_le (by rw [List.length_drop]; have := HSL.out; omega)]
theorem scut_any (s : ByteArray) (c : UInt8) (w : World) (hs : s.size ≤ 1000000) :
    Calls Tryz.prog 69 #[.string s, .string ⟨#[c]⟩] w (CutQ s c w) := by
  go_enter Tryz.func69, Tryz.ntmps69
  go_wp2_with fail
  refine (lcut_any s c w hs).mono ?_
  rintro e w1 ⟨rfl, hb⟩
  have HB := Lib.hid hb
  clear hb
  go_wp2
  go_ret3
  exact ⟨rfl, HB.out⟩
end Go.Proofs.YtajkdllakleakaaGreatDoor
