/- Chapter 16: an array of two rows of items can be used. -/
import Derived.Test.YtajkdllakleakaaGreatDoorMUa
namespace Go.Proofs.YtajkdllakleakaaGreatDoor
open Go.RowKit
set_option linter.unusedVariables false
set_option linter.unusedSimpArgs false

/-- An array of two rows. -/
def arrR (g : Nat) : IRow := ⟨3, 0, eS, 0, 0, .slice none 0 0, .slice (some ⟨g, 0, none⟩) 2 2, .pointer none⟩
theorem ent_can (args : Array Value) (W : World) : (callFunc 47 args).run Tryz.prog W = .ok (.enter 47 args) W := enters_of Tryz.func47 (by kernel_rfl) rfl args W
/-- Between two members. -/
structure MeS (w0 W : World) (Bu U g : Nat) (m0 m1 : Value) (l0 l1 : List IRow) : Prop where
  h : Below w0.heap.size w0 W
  b : W.heap[Bu]? = some (.cells (puV U) 46 (0, 0))
  m : W.heap[g]? = some (.cells #[m0, m1] 22 (0, 0))
  r0 : RdI W l0 m0
  r1 : RdI W l1 m1
theorem MeS.go {w0 W W' : World} {Bu U g : Nat} {m0 m1 : Value} {l0 l1 : List IRow} (h : MeS w0 W Bu U g m0 m1 l0 l1) (hb : Below W.heap.size W W') : MeS w0 W' Bu U g m0 m1 l0 l1 :=
  ⟨h.h.trans (hb.mono h.h.size), (hb.block _ (lt_heap h.b)).trans h.b, (hb.block _ (lt_heap h.m)).trans h.m, RdRows.below h.r0 hb, RdRows.below h.r1 hb⟩
set_option maxRecDepth 100000 in
theorem can1_rows (U Bu : Nat) (l : List IRow) (v : Value) (w : World) (hbu : w.heap[Bu]? = some (.cells (puV U) 46 (0, 0))) (hl : RdI w l v) (hn : l.length ≤ 1000000) (hok : ∀ r, r ∈ l → ROk r) (hcan : ∀ r, r ∈ l → CanR w U r) :
    Calls Tryz.prog 47 #[v, .pointer (some ⟨Bu, 0, none⟩)] w fun e w' => e = .returned (.bool false) ∧ Below w.heap.size w w' := by
  have HA := Lib.hid (all_rows U l v w hl hn hok hcan)
  obtain ⟨A, c, rfl, _⟩ := hl.form
  have c0 : w.cell? ⟨Bu, 0, none⟩ = some (.pointer (some ⟨U, 0, none⟩)) := cell_of_row _ _ 0 _ _ _ hbu
  clear hcan hok hl hbu
  go_enter Tryz.func47, Tryz.ntmps47
  go_wp2_with fail
  refine HA.out.mono ?_
  rintro e w1 ⟨rfl, hb⟩
  have HB := Lib.hid hb
  clear hb
  go_wp2
  go_ret
  exact ⟨rfl, HB.out⟩
set_option maxRecDepth 100000 in
theorem idx_mems (U Bu g : Nat) (l0 l1 : List IRow) (m0 m1 : Value) (w : World) (hS : MeS w w Bu U g m0 m1 l0 l1)
    (h1 : ∀ W, MeS w W Bu U g m0 m1 l0 l1 → Calls Tryz.prog 47 #[m0, .pointer (some ⟨Bu, 0, none⟩)] W fun e w' => e = .returned (.bool false) ∧ Below W.heap.size W w')
    (h2 : ∀ W, MeS w W Bu U g m0 m1 l0 l1 → Calls Tryz.prog 47 #[m1, .pointer (some ⟨Bu, 0, none⟩)] W fun e w' => e = .returned (.bool false) ∧ Below W.heap.size W w') :
    Calls Tryz.prog 62 #[.slice (some ⟨g, 0, none⟩) 2 2, .func (.func 47) #[] #[.pointer (some ⟨Bu, 0, none⟩)]] w fun e w' => e = .returned (.int .i64 (-1)) ∧ Below w.heap.size w w' := by
  obtain ⟨A0, c0, rfl, _⟩ := hS.r0.form
  obtain ⟨A1, c1, rfl, _⟩ := hS.r1.form
  have H1 := Lib.hid h1
  have H2 := Lib.hid h2
  have S0 := Lib.hid hS
  have hent := ent_can
  clear h1 h2 hS
  go_enter Tryz.func62, Tryz.ntmps62
  go_wp2
  go_loopw [8] (fun i wr => ∃ k : Nat, k ≤ 2 ∧ i = .int .i64 k ∧ Hid (MeS w wr Bu U g (.slice A0 l0.length c0) (.slice A1 l1.length c1) l0 l1)) (fun i _ => 2 - (intOf i).toNat)
  case atStart => exact ⟨0, Nat.zero_le _, rfl, S0⟩
  case round =>
    obtain ⟨k, hk, rfl, S⟩ := hrel
    clear S0
    have k0 : wr.cell? ⟨g, 0, none⟩ = some (.slice A0 l0.length c0) := cell_of_row _ _ 0 _ _ _ S.out.m
    have k1 : wr.cell? ⟨g, 1, none⟩ = some (.slice A1 l1.length c1) := cell_of_row _ _ 1 _ _ _ S.out.m
    have hk' : k = 0 ∨ k = 1 ∨ k = 2 := by omega
    rcases hk' with rfl | rfl | rfl
    · go_wp2_with fail
      refine (H1.out _ S.out).mono ?_
      rintro e w1 ⟨rfl, hb⟩
      have S1 := Lib.hid (S.out.go hb)
      clear hb
      go_wp2
      go_roundw
      case rel => exact ⟨1, by omega, by go_num, S1⟩
      case measure => simp [intOf]
    · go_wp2_with fail
      refine (H2.out _ S.out).mono ?_
      rintro e w1 ⟨rfl, hb⟩
      have S1 := Lib.hid (S.out.go hb)
      clear hb
      go_wp2
      go_roundw
      case rel => exact ⟨2, by omega, by go_num, S1⟩
      case measure => simp [intOf]
    · go_wp2
      go_ret
      exact ⟨rfl, S.out.h⟩
set_option maxRecDepth 100000 in
theorem has_mems (U Bu g : Nat) (l0 l1 : List IRow) (m0 m1 : Value) (w : World) (hS : MeS w w Bu U g m0 m1 l0 l1)
    (h1 : ∀ W, MeS w W Bu U g m0 m1 l0 l1 → Calls Tryz.prog 47 #[m0, .pointer (some ⟨Bu, 0, none⟩)] W fun e w' => e = .returned (.bool false) ∧ Below W.heap.size W w')
    (h2 : ∀ W, MeS w W Bu U g m0 m1 l0 l1 → Calls Tryz.prog 47 #[m1, .pointer (some ⟨Bu, 0, none⟩)] W fun e w' => e = .returned (.bool false) ∧ Below W.heap.size W w') :
    Calls Tryz.prog 46 #[.slice (some ⟨g, 0, none⟩) 2 2, .func (.func 47) #[] #[.pointer (some ⟨Bu, 0, none⟩)]] w fun e w' => e = .returned (.bool false) ∧ Below w.heap.size w w' := by
  have HC := Lib.hid (idx_mems U Bu g l0 l1 m0 m1 w hS h1 h2)
  clear hS h1 h2
  go_enter Tryz.func46, Tryz.ntmps46
  go_wp2_with fail
  refine HC.out.mono ?_
  rintro e w1 ⟨rfl, hb⟩
  have HB := Lib.hid hb
  clear hb
  go_wp2
  go_ret
  exact ⟨rfl, HB.out⟩
set_option maxRecDepth 100000 in
theorem can_arr (U g : Nat) (l0 l1 : List IRow) (m0 m1 : Value) (w : World) (hm : w.heap[g]? = some (.cells #[m0, m1] 22 (0, 0))) (hr0 : RdI w l0 m0) (hr1 : RdI w l1 m1) (hn0 : l0.length ≤ 1000000) (hn1 : l1.length ≤ 1000000)
    (hok : ∀ r, r ∈ l0 ∨ r ∈ l1 → ROk r) (hcan : ∀ r, r ∈ l0 ∨ r ∈ l1 → CanR w U r) : CanR w U (arrR g) := by
  intro V hV
  have hS : MeS ((V.alloc (.cells (puV U) 46)).alloc (.cells #[.int .i64 3, .int .i64 0, .string eS, .int .i64 0, .int .i64 0, .slice none 0 0, .slice (some ⟨g, 0, none⟩) 2 2, .pointer none] 29)) ((V.alloc (.cells (puV U) 46)).alloc (.cells #[.int .i64 3, .int .i64 0, .string eS, .int .i64 0, .int .i64 0, .slice none 0 0, .slice (some ⟨g, 0, none⟩) 2 2, .pointer none] 29)) V.heap.size U g m0 m1 l0 l1 := by
    have hb0 : Below w.heap.size w ((V.alloc (.cells (puV U) 46)).alloc (.cells #[.int .i64 3, .int .i64 0, .string eS, .int .i64 0, .int .i64 0, .slice none 0 0, .slice (some ⟨g, 0, none⟩) 2 2, .pointer none] 29)) := (hV.alloc hV.size _).alloc (by have := hV.size; simp; omega) _
    exact ⟨Below.refl _ _, hp_past (hp_new rfl), (hb0.block _ (lt_heap hm)).trans hm, RdRows.below hr0 hb0, RdRows.below hr1 hb0⟩
  have hB0 : Below V.heap.size V ((V.alloc (.cells (puV U) 46)).alloc (.cells #[.int .i64 3, .int .i64 0, .string eS, .int .i64 0, .int .i64 0, .slice none 0 0, .slice (some ⟨g, 0, none⟩) 2 2, .pointer none] 29)) := ((Below.refl _ V).alloc (Nat.le_refl _) _).alloc (by simp) _
  have hC : ∀ W, MeS ((V.alloc (.cells (puV U) 46)).alloc (.cells #[.int .i64 3, .int .i64 0, .string eS, .int .i64 0, .int .i64 0, .slice none 0 0, .slice (some ⟨g, 0, none⟩) 2 2, .pointer none] 29)) W V.heap.size U g m0 m1 l0 l1 → Below w.heap.size w W := fun W h => (hV.trans ((hB0.trans (h.h.mono (by simp <;> omega))).mono hV.size))
  have HH := Lib.hid (has_mems U V.heap.size g l0 l1 m0 m1 _ hS
    (fun W h => can1_rows U _ l0 m0 W h.b h.r0 hn0 (fun r hr => hok r (.inl hr)) (fun r hr X hX => hcan r (.inl hr) X ((hC W h).trans (hX.mono (hC W h).size))))
    (fun W h => can1_rows U _ l1 m1 W h.b h.r1 hn1 (fun r hr => hok r (.inr hr)) (fun r hr X hX => hcan r (.inr hr) X ((hC W h).trans (hX.mono (hC W h).size)))))
  have HB0 := Lib.hid hB0
  clear hS hC hB0 hcan hok hr0 hr1 hm hV
  unfold itV arrR
  unfold puV at *
  go_enter Tryz.func26, Tryz.ntmps26
  go_wp2_with fail
  refine HH.out.mono ?_
  rintro e w1 ⟨rfl, hb⟩
  have HB := Lib.hid (HB0.out.trans (hb.mono (by simp <;> omega)))
  clear hb
  go_wp2
  go_ret
  exact ⟨rfl, HB.out⟩
end Go.Proofs.YtajkdllakleakaaGreatDoor
