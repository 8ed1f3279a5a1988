/- groups.By's search: its closure, and slices.IndexFunc. -/
import Derived.Test.YtfheoplcjeimdaaGreatDoorStr
namespace Go.Proofs.YtfheoplcjeimdaaGreatDoor
open Go.RowKit
set_option linter.unusedVariables false
set_option linter.unusedSimpArgs false

abbrev Atm := Int × ByteArray
def atm0 : Atm := (0, ⟨#[]⟩)
/-- A slice of atoms reads as a list. -/
def RdAtoms (w : World) (A : Option Addr) (n : Nat) (l : List Atm) : Prop :=
  l.length = n ∧ n ≤ 9223372036854775807 ∧ (0 < n → ∃ b off, A = some ⟨b, off, none⟩ ∧ b < w.heap.size ∧
    ∀ j, j < n → w.cell? ⟨b, off + j * 2, none⟩ = some (.int .i64 (l.getD j atm0).1) ∧ w.cell? ⟨b, off + j * 2 + 1, none⟩ = some (.string (l.getD j atm0).2))
theorem RdAtoms.below {w w1 : World} {A : Option Addr} {n : Nat} {l : List Atm} (h : RdAtoms w A n l) (hb : Below w.heap.size w w1) : RdAtoms w1 A n l :=
  ⟨h.1, h.2.1, fun hn => by
    obtain ⟨b, off, e, hlt, hc⟩ := h.2.2 hn
    have hs := hb.size
    exact ⟨b, off, e, by omega, fun j hj => ⟨(hb.cell (p := ⟨b, _, none⟩) hlt).trans (hc j hj).1, (hb.cell (p := ⟨b, _, none⟩) hlt).trans (hc j hj).2⟩⟩⟩

section
variable {S : Int → ByteArray → Prop} {I : World → Prop} {va : Int → ByteArray → Bool} {sa : Int → ByteArray → Int → ByteArray → Bool}

theorem by1_any (C : AtomC S I va sa) (k k' : Int) (s s' : ByteArray) (B : Nat) (w : World) (h : S k s) (h' : S k' s') (hI : I w) (hB : B < w.heap.size)
    (c0 : w.cell? ⟨B, 0, none⟩ = some (.int .i64 k')) (c1 : w.cell? ⟨B, 1, none⟩ = some (.string s')) :
    Calls Tryz.prog 28 #[.agg #[.int .i64 k, .string s], .pointer (some ⟨B, 0, none⟩)] w fun e w' => e = .returned (.bool (gsB va sa k s k' s')) ∧ Below w.heap.size w w' := by
  have C' := Lib.hid C
  clear C
  have H := Lib.hid (And.intro h h')
  clear h h'
  have HI := Lib.hid hI
  clear hI
  go_enter Tryz.func28, Tryz.ntmps28
  go_wp2_with fail
  have HI1 := Lib.hid (C'.out.inv _ _ HI.out ((Below.refl _ _).alloc (Nat.le_refl _) (.cells #[.int .i64 k, .string s] 38)))
  refine (gsame_any C'.out k k' s s' _ H.out.1 H.out.2 HI1.out).mono ?_
  rintro e w1 ⟨rfl, hb1⟩
  go_wp2
  go_ret
  exact ⟨rfl, ((Below.refl _ _).alloc (Nat.le_refl _) _).trans (hb1.mono (by simp))⟩

/-- The place of the first key in a list that is the same as one, or -1. -/
def idxB (p : Atm → Bool) : List Atm → Int → Int
  | [], _ => -1
  | x :: l, i => if p x then i else idxB p l (i + 1)

set_option maxRecDepth 100000 in
theorem index_any (C : AtomC S I va sa) (l : List Atm) (k' : Int) (s' : ByteArray) (A : Option Addr) (n cap : Nat) (B : Nat) (w : World) (h : ∀ x, x ∈ l → S x.1 x.2) (h' : S k' s') (hI : I w) (hB : B < w.heap.size)
    (hl : RdAtoms w A n l) (c0 : w.cell? ⟨B, 0, none⟩ = some (.int .i64 k')) (c1 : w.cell? ⟨B, 1, none⟩ = some (.string s')) :
    Calls Tryz.prog 27 #[.slice A n cap, .func (.func 28) #[] #[.pointer (some ⟨B, 0, none⟩)]] w fun e w' => e = .returned (.int .i64 (idxB (fun x => gsB va sa x.1 x.2 k' s') l 0)) ∧ Below w.heap.size w w' := by
  have C' := Lib.hid C
  clear C
  have H := Lib.hid (And.intro h h')
  clear h h'
  have HI := Lib.hid hI
  clear hI
  have HL := Lib.hid hl
  have hm := hl.2.1
  have hln := hl.1
  clear hl
  have C0 := Lib.hid (And.intro c0 c1)
  clear c0 c1
  have HN := Lib.hid hln
  clear hln
  go_enter Tryz.func27, Tryz.ntmps27
  go_wp2
  go_loopw [8] (fun i wr => ∃ j : Nat, j ≤ n ∧ i = .int .i64 j ∧ Below w.heap.size w wr ∧ Hid (idxB (fun x => gsB va sa x.1 x.2 k' s') l 0 = idxB (fun x => gsB va sa x.1 x.2 k' s') (l.drop j) j)) (fun i _ => n - (intOf i).toNat)
  case atStart => exact ⟨0, Nat.zero_le _, rfl, Below.refl _ _, Lib.hid rfl⟩
  case round =>
    obtain ⟨j, hj, rfl, hb, HR⟩ := hrel
    by_cases hlt : j < n
    · obtain ⟨b, off, rfl, hbl, hc⟩ := (HL.out.below hb).2.2 (by omega)
      obtain ⟨g0, g1⟩ := hc j hlt
      clear hc
      have hx : l[j]?.getD atm0 ∈ l := by
        have : j < l.length := by rw [HN.out]; exact hlt
        rw [List.getElem?_eq_getElem this]
        exact List.getElem_mem this
      have hd : l.drop j = l[j]?.getD atm0 :: l.drop (j + 1) := by
        have : j < l.length := by rw [HN.out]; exact hlt
        rw [List.getElem?_eq_getElem this]
        exact List.drop_eq_getElem_cons this
      have HD := Lib.hid hd
      have HX := Lib.hid (H.out.1 _ hx)
      clear hd hx
      go_wp2_with fail
      refine (by1_any C'.out _ k' _ s' B _ HX.out H.out.2 (C'.out.inv _ _ HI.out hb) (by have := hb.size; omega) ((hb.cell (p := ⟨B, 0, none⟩) hB).trans C0.out.1) ((hb.cell (p := ⟨B, 1, none⟩) hB).trans C0.out.2)).mono ?_
      rintro e w1 ⟨rfl, hb1⟩
      by_cases hg : gsB va sa (l[j]?.getD atm0).1 (l[j]?.getD atm0).2 k' s' = true
      · go_wp2
        go_ret
        exact ⟨ret_int (by rw [HR.out, HD.out]; simp only [idxB]; rw [if_pos hg]), hb.trans (hb1.mono hb.size)⟩
      · go_wp2
        go_roundw
        case rel => exact ⟨j + 1, by omega, by go_num, hb.trans (hb1.mono hb.size), Lib.hid (by rw [HR.out, HD.out]; simp only [idxB]; rw [if_neg hg]; rfl)⟩
        case measure => simp [intOf]; omega
    · go_wp2
      go_ret
      refine ⟨ret_int ?_, hb⟩
      rw [HR.out, List.drop_eq_nil_of_le (by rw [HN.out]; omega)]
      rfl
end
end Go.Proofs.YtfheoplcjeimdaaGreatDoor
