/- groups.Adjacent, and slices.EqualFunc at keys. -/
import Derived.Test.YtfheoplcjeimdaaGreatDoorSame
import Derived.Deep.RegionWith
import Derived.IntWalk
import Derived.StillTailTactics
namespace Go.Proofs.YtfheoplcjeimdaaGreatDoor
open Go.RowKit
set_option linter.unusedVariables false
set_option linter.unusedSimpArgs false

section
variable {S : Int → ByteArray → Prop} {I : World → Prop} {va : Int → ByteArray → Bool} {sa : Int → ByteArray → Int → ByteArray → Bool}

def gsA (va : Int → ByteArray → Bool) (sa : Int → ByteArray → Int → ByteArray → Bool) (x y : Atm) : Bool := gsB va sa x.1 x.2 y.1 y.2
/-- Have two lists as many keys, and the same ones? -/
def eqAA (va : Int → ByteArray → Bool) (sa : Int → ByteArray → Int → ByteArray → Bool) (p q : List Atm) : Bool :=
  decide (p.length = q.length) && (List.range p.length).all fun j => gsA va sa (p.getD j atm0) (q.getD j atm0)

theorem mem_getD {α : Type} (l : List α) (j : Nat) (d : α) (h : j < l.length) : l[j]?.getD d ∈ l := by
  rw [List.getElem?_eq_getElem h]; exact List.getElem_mem h

set_option maxRecDepth 100000 in
set_option maxHeartbeats 1000000 in
theorem equalFunc_any (C : AtomC S I va sa) (p q : List Atm) (A B : Option Addr) (n m cap cap' : Nat) (w : World) (hp : ∀ x, x ∈ p → S x.1 x.2) (hq : ∀ x, x ∈ q → S x.1 x.2) (hI : I w) (hn : n ≤ 1000000) (hA : RdAtoms w A n p) (hB : RdAtoms w B m q) :
    Calls Tryz.prog 35 #[.slice A n cap, .slice B m cap', .func (.func 29) #[] #[]] w fun e w' => e = .returned (.bool (eqAA va sa p q)) ∧ Below w.heap.size w w' := by
  have C' := Lib.hid C
  clear C
  have H := Lib.hid (And.intro hp hq)
  clear hp hq
  have HI := Lib.hid hI
  clear hI
  have HA := Lib.hid hA
  have HB := Lib.hid hB
  have hpn := Lib.hid hA.1
  have hqn := Lib.hid hB.1
  clear hA hB
  by_cases hnm : n = m
  · subst hnm
    go_enter Tryz.func35, Tryz.ntmps35
    go_wp2
    go_loopw [17] (fun i wr => ∃ (j : Nat), j ≤ n ∧ i = .int .i64 j ∧ Hid (∀ t, t < j → gsA va sa (p.getD t atm0) (q.getD t atm0) = true) ∧ Below w.heap.size w wr) (fun i _ => n - (intOf i).toNat)
    case atStart => exact ⟨0, Nat.zero_le _, rfl, Lib.hid (fun t h => absurd h (by omega)), Below.refl _ _⟩
    case round =>
      obtain ⟨j, hj, rfl, HE, hb⟩ := hrel
      by_cases hlt : j < n
      · obtain ⟨b1, o1, rfl, hb1, k1⟩ := (HA.out.below hb).2.2 (by omega)
        obtain ⟨b2, o2, rfl, hb2, k2⟩ := (HB.out.below hb).2.2 (by omega)
        obtain ⟨f1, f2⟩ := k1 j hlt
        obtain ⟨f3, f4⟩ := k2 j hlt
        have s1 := Lib.hid (H.out.1 _ (mem_getD p j atm0 (by have := hpn.out; omega)))
        have s2 := Lib.hid (H.out.2 _ (mem_getD q j atm0 (by have := hqn.out; omega)))
        clear k1 k2
        go_wp2_with fail
        have b2 := Lib.hid (((Below.refl wr.heap.size wr).alloc (Nat.le_refl _) (.cells #[.int .i64 (p[j]?.getD atm0).1, .string (p[j]?.getD atm0).2] 38)).alloc (by simp) (.cells #[.int .i64 (q[j]?.getD atm0).1, .string (q[j]?.getD atm0).2] 38))
        refine (gsame_any C'.out _ _ _ _ _ s1.out s2.out (C'.out.inv _ _ (C'.out.inv _ _ HI.out hb) b2.out)).mono ?_
        rintro e w1 ⟨rfl, hb1'⟩
        have hb' : Below w.heap.size w w1 := (hb.trans (b2.out.mono hb.size)).trans (hb1'.mono (Nat.le_trans hb.size b2.out.size))
        by_cases hg : gsB va sa (p[j]?.getD atm0).1 (p[j]?.getD atm0).2 (q[j]?.getD atm0).1 (q[j]?.getD atm0).2 = true
        · go_wp2
          go_roundw
          case rel =>
            refine ⟨j + 1, by omega, by go_num, Lib.hid (fun t ht => ?_), hb'⟩
            rcases Nat.lt_or_ge t j with e | e
            · exact HE.out t e
            · obtain rfl : t = j := by omega
              simpa [gsA, List.getD_eq_getElem?_getD] using hg
          case measure => simp [intOf]; omega
        · go_wp2
          go_ret
          refine ⟨ret_bool ?_, hb'⟩
          symm
          unfold eqAA
          rw [Bool.and_eq_false_iff]
          right
          rw [List.all_eq_false]
          exact ⟨j, List.mem_range.2 (by have := hpn.out; omega), by simpa [gsA, List.getD_eq_getElem?_getD] using hg⟩
      · obtain rfl : j = n := by omega
        go_wp2
        go_ret
        refine ⟨ret_bool ?_, hb⟩
        symm
        unfold eqAA
        rw [Bool.and_eq_true]
        exact ⟨by simp only [decide_eq_true_eq]; have := hpn.out; have := hqn.out; omega, by
          rw [List.all_eq_true]; intro t ht; exact HE.out t (by have := hpn.out; have := List.mem_range.1 ht; omega)⟩
  · have hne : ((n : Int) != (m : Int)) = true := by simp; omega
    go_enter Tryz.func35, Tryz.ntmps35
    go_wp2
    go_ret
    refine ⟨ret_bool ?_, Below.refl _ _⟩
    unfold eqAA
    rw [decide_eq_false (by have := hpn.out; have := hqn.out; omega)]
    rfl

/-- A slice of slices of atoms reads as a list of lists. -/
def RdAA (w : World) (A : Option Addr) (n : Nat) (ls : List (List Atm)) : Prop :=
  ls.length = n ∧ (0 < n → ∃ b off, A = some ⟨b, off, none⟩ ∧ b < w.heap.size ∧
    ∀ j, j < n → ∃ Aj cj, w.cell? ⟨b, off + j, none⟩ = some (.slice Aj (ls.getD j []).length cj) ∧ RdAtoms w Aj (ls.getD j []).length (ls.getD j []))
theorem RdAA.below {w w1 : World} {A : Option Addr} {n : Nat} {ls : List (List Atm)} (h : RdAA w A n ls) (hb : Below w.heap.size w w1) : RdAA w1 A n ls :=
  ⟨h.1, fun hn => by
    obtain ⟨b, off, e, hlt, hc⟩ := h.2 hn
    have hs := hb.size
    refine ⟨b, off, e, by omega, fun j hj => ?_⟩
    obtain ⟨Aj, cj, h1, h2⟩ := hc j hj
    exact ⟨Aj, cj, (hb.cell (p := ⟨b, _, none⟩) hlt).trans h1, h2.below hb⟩⟩

set_option maxRecDepth 100000 in
theorem adj1_any (C : AtomC S I va sa) (ls : List (List Atm)) (A : Option Addr) (n cap B : Nat) (i : Int) (j : Nat) (w : World) (hS : ∀ l, l ∈ ls → ∀ x, x ∈ l → S x.1 x.2) (hI : I w) (hi : i = j) (h0 : 0 < j) (hj : j < n) (hn : n ≤ 1000000) (hlen : ∀ l, l ∈ ls → l.length ≤ 1000000)
    (hl : RdAA w A n ls) (hc : w.cell? ⟨B, 0, none⟩ = some (.slice A n cap)) :
    Calls Tryz.prog 34 #[.int .i64 i, .pointer (some ⟨B, 0, none⟩)] w fun e w' => e = .returned (.bool (!eqAA va sa (ls.getD (j - 1) []) (ls.getD j []))) ∧ Below w.heap.size w w' := by
  subst hi
  obtain ⟨j, rfl⟩ : ∃ m, j = m + 1 := ⟨j - 1, by omega⟩
  have hl1 := hl.1
  have m1 := mem_getD ls j [] (by omega)
  have m2 := mem_getD ls (j + 1) [] (by omega)
  rw [← List.getD_eq_getElem?_getD] at m1 m2
  obtain ⟨b, off, rfl, hbl, hr⟩ := hl.2 (by omega)
  obtain ⟨A1, c1, f1, r1⟩ := hr j (by omega)
  obtain ⟨A2, c2, f2, r2⟩ := hr (j + 1) hj
  have K := Lib.hid (fun W hb => equalFunc_any C (ls.getD j []) (ls.getD (j + 1) []) A1 A2 _ _ c1 c2 W (hS _ m1) (hS _ m2) (C.inv w W hI hb) (hlen _ m1) (r1.below hb) (r2.below hb))
  rw [Nat.add_sub_cancel]
  generalize ls.getD j [] = p at *
  generalize ls.getD (j + 1) [] = q at *
  clear hr hl hS r1 r2 hlen m1 m2 hl1 C hI
  have x1 : IntKind.i64.wrap (j : Int) = j := IntWalk.i64_in _ (by omega)
  have x2 : (j : Int) < n := by omega
  have x3 : (j : Int) + 1 < n := by omega
  have x4 : (0 : Int) ≤ (j : Int) + 1 := by omega
  have x5 : ((j : Int) + 1).toNat = j + 1 := by omega
  go_enter Tryz.func34, Tryz.ntmps34
  go_wp2
  go_still_tail 9, (by kernel_rfl)
  go_wp2_with fail
  refine (K.out _ (Below.refl _ _).drew).mono ?_
  rintro e w1 ⟨rfl, hb1⟩
  go_wp2
  go_ret
  exact ⟨rfl, (Below.refl _ _).drew.trans hb1⟩

theorem adjacent_any (C : AtomC S I va sa) (ls : List (List Atm)) (A : Option Addr) (n cap : Nat) (w : World) (hS : ∀ l, l ∈ ls → ∀ x, x ∈ l → S x.1 x.2) (hI : I w) (hn : n ≤ 1000000) (hlen : ∀ l, l ∈ ls → l.length ≤ 1000000) (hl : RdAA w A n ls) :
    Calls Tryz.prog 17 #[.slice A n cap] w (GivesR (grp (fun j => !eqAA va sa (ls.getD (j - 1) []) (ls.getD j [])) n) w) := by
  have hb0 := (Below.refl w.heap.size w).alloc (Nat.le_refl _) (.cells #[.slice A n cap] 22)
  have K := Lib.hid (fun (i : Int) (j : Nat) W hi h0 hj (hb : Below (w.alloc (.cells #[.slice A n cap] 22)).heap.size _ W) =>
    adj1_any C ls A n cap w.heap.size i j W hS (C.inv _ _ (C.inv _ _ hI hb0) hb) hi h0 hj hn hlen ((hl.below hb0).below hb) ((hb.cell (p := ⟨w.heap.size, 0, none⟩) (by simp)).trans (by simp)))
  clear hl hS hI C hlen hb0
  have hmf : ∀ (fn : Fn) (first cap : Array Value) (w : World), (Instr.makeFunc fn first cap).run Tryz.prog w = .ok (.func fn first cap) w := fun _ _ _ _ => rfl
  go_enter Tryz.func17, Tryz.ntmps17
  go_wp2_with fail
  refine (cut_any 34 w.heap.size n (fun j => !eqAA va sa (ls.getD (j - 1) []) (ls.getD j [])) _ (.inr (.inr rfl)) hn K.out).mono ?_
  rintro e w1 ⟨v, rfl, hr, hb⟩
  have HR := Lib.hid hr
  clear hr hmf
  go_wp2
  go_ret
  exact ⟨v, rfl, HR.out, below_box hb⟩
end
end Go.Proofs.YtfheoplcjeimdaaGreatDoor
