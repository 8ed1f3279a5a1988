/- Chapter 16: rows of atoms can be used, whatever their number; an array of such rows, too. -/
import Derived.Test.YtajkdllakleakaaGreatDoorMTv
namespace Go.Proofs.YtajkdllakleakaaGreatDoor
open Go.RowKit
set_option linter.unusedVariables false
set_option linter.unusedSimpArgs false

def d7 : ByteArray := { data := #[55] }
theorem vint7 : ValidK 3 d7 := vvalid_by 3 d7 _ rfl vreader3 (.inl rfl) (fun W => by have := wholeRead_any [55] W (by decide +kernel); rwa [show wholeR [55] = ([55], true) by decide +kernel] at this)
/-- An item can be used, and no more is said of it. -/
def CanR (w : World) (U : Nat) (r : IRow) : Prop := ∀ V, Below w.heap.size w V → Calls Tryz.prog 26 #[.pointer (some ⟨U, 0, none⟩), itV r] V fun e w' => e = .returned (.bool true) ∧ Below V.heap.size V w'
set_option maxRecDepth 100000 in
theorem can_val (s : ByteArray) (hs : ValidK 3 s) (U : Nat) (w : World) : CanR w U (atomR 3 s) := by
  intro V hV
  have HV : Hid (∀ W, Calls Tryz.prog 44 #[.agg #[.int .i64 3, .string s]] W fun e w' => e = .returned (.bool true) ∧ Below W.heap.size W w') := Lib.hid hs
  clear hs hV
  unfold itV atomR
  have hb0 : Below V.heap.size V ((V.alloc (.cells #[.pointer (some ⟨U, 0, none⟩)] 46)).alloc (.cells #[.int .i64 0, .int .i64 3, .string s, .int .i64 0, .int .i64 0, .slice none 0 0, .slice none 0 0, .pointer none] 29)) := ((Below.refl _ V).alloc (Nat.le_refl _) _).alloc (by simp) _
  go_enter Tryz.func26, Tryz.ntmps26
  go_wp2_with fail
  refine (HV.out _).mono ?_
  rintro e w1 ⟨rfl, hb⟩
  have HB := Lib.hid (hb0.trans (hb.mono (by simp <;> omega)))
  clear hb hb0
  go_wp2
  go_ret
  exact ⟨rfl, HB.out⟩
/-- Between two items of all. -/
structure AlS (w0 W : World) (Bu U : Nat) (l : List IRow) (v : Value) : Prop where
  g : Below w0.heap.size w0 W
  b : W.heap[Bu]? = some (.cells (puV U) 46 (0, 0))
  l : RdI W l v
theorem AlS.go {w0 W W' : World} {Bu U : Nat} {l : List IRow} {v : Value} (h : AlS w0 W Bu U l v) (hb : Below W.heap.size W W') : AlS w0 W' Bu U l v :=
  ⟨h.g.trans (hb.mono h.g.size), (hb.block _ (lt_heap h.b)).trans h.b, RdRows.below h.l hb⟩
set_option maxRecDepth 100000 in
theorem all_rows (U : Nat) (l : List IRow) (v : Value) (w : World) (hl : RdI w l v) (hn : l.length ≤ 1000000) (hok : ∀ r, r ∈ l → ROk r) (hcan : ∀ r, r ∈ l → CanR w U r) :
    Calls Tryz.prog 11 #[.pointer (some ⟨U, 0, none⟩), v] w fun e w' => e = .returned (.bool true) ∧ Below w.heap.size w w' := by
  have HA : Hid (Calls Tryz.prog 24 #[v, .func (.func 25) #[] #[.pointer (some ⟨w.heap.size, 0, none⟩)]] (w.alloc (.cells (puV U) 46)) fun e w' => e = .returned (.bool false) ∧ AlS (w.alloc (.cells (puV U) 46)) w' w.heap.size U l v) := by
    refine Lib.hid (hasNone_any l _ _ _ ent_all _ (fun _ W => AlS (w.alloc (.cells (puV U) 46)) W w.heap.size U l v) hn hok (fun k W h => h.l) (fun k W o h => h.go ((Below.refl _ _).alloc (Nat.le_refl _) _)) ⟨Below.refl _ _, hp_new rfl, RdRows.below hl (box1 w _ _)⟩ ?_)
    intro k r W hk hS
    have hr : r ∈ l := List.mem_of_getElem? hk
    refine (all1_ex r (hok r hr) _ U W hS.b (fun V w' => Below V.heap.size V w') (fun V hV => hcan r hr V ((box1 w _ _).trans ((hS.g.trans (hV.mono hS.g.size)).mono (by simp))))).mono ?_
    rintro e w' ⟨rfl, V, hV, hb⟩
    exact ⟨rfl, (hS.go hV).go hb⟩
  obtain ⟨A, c, rfl, _⟩ := hl.form
  clear hcan hok hl
  go_enter Tryz.func11, Tryz.ntmps11
  go_wp2_with fail
  refine HA.out.mono ?_
  rintro e w1 ⟨rfl, hS⟩
  have HS := Lib.hid hS
  clear hS
  go_wp2
  go_ret
  exact ⟨rfl, (box1 w _ _).trans (HS.out.g.mono (by simp))⟩
end Go.Proofs.YtajkdllakleakaaGreatDoor
