/- Chapter 16: all items of the examples can be used. -/
import Derived.Shelf.Abstract
import Derived.Test.YtajkdllakleakaaGreatDoorMTu
import Derived.Test.YtajkdllakleakaaGreatDoorM3
import Derived.Test.YtajkdllakleakaaGreatDoorMVi
namespace Go.Proofs.YtajkdllakleakaaGreatDoor
open Go.RowKit
set_option linter.unusedVariables false
set_option linter.unusedSimpArgs false

theorem ent_all (args : Array Value) (W : World) : (callFunc 25 args).run Tryz.prog W = .ok (.enter 25 args) W := enters_of Tryz.func25 (by kernel_rfl) rfl args W
set_option maxRecDepth 100000 in
/-- The closure of all: it says whether can says no. -/
theorem all1_ex (r : IRow) (hr : ROk r) (Bu U : Nat) (W : World) (hbu : W.heap[Bu]? = some (.cells #[.pointer (some ⟨U, 0, none⟩)] 46 (0, 0))) (Q : World → World → Prop)
    (hcan : ∀ V, Below W.heap.size W V → Calls Tryz.prog 26 #[.pointer (some ⟨U, 0, none⟩), itV r] V fun e w' => e = .returned (.bool true) ∧ Q V w') :
    Calls Tryz.prog 25 #[itV r, .pointer (some ⟨Bu, 0, none⟩)] W fun e w' => e = .returned (.bool false) ∧ ∃ V, Below W.heap.size W V ∧ Q V w' := by
  have HC := Lib.hid hcan
  have sps := fun w a m => run_store Tryz.prog w a _ m hr.ps
  have sms := fun w a m => run_store Tryz.prog w a _ m hr.ms
  have sfn := fun w a m => run_store Tryz.prog w a _ m hr.fn
  have hps := hr.ps
  have hms := hr.ms
  have hfn := hr.fn
  have c0 : (W.alloc (.cells #[.int .i64 r.k, .int .i64 r.ak, .string r.tx, .int .i64 r.tr, .int .i64 r.nd, r.ps, r.ms, r.fn] 29)).cell? ⟨Bu, 0, none⟩ = some (.pointer (some ⟨U, 0, none⟩)) := cell_of_row _ _ 0 _ _ _ (hp_past hbu)
  clear hcan hr hbu
  unfold itV
  go_enter Tryz.func25, Tryz.ntmps25
  go_wp2_with fail
  refine (HC.out _ (box1 _ _ _)).mono ?_
  rintro e w1 ⟨rfl, hq⟩
  have HQ := Lib.hid hq
  clear hq
  go_wp2
  go_ret
  exact ⟨rfl, _, box1 _ _ _, HQ.out⟩
set_option maxRecDepth 100000 in
theorem can_atom (s : ByteArray) (hs : s = d1 ∨ s = d2 ∨ s = d3) (u : Value) (hu : ∃ U, u = .pointer (some ⟨U, 0, none⟩)) (w : World) : Calls Tryz.prog 26 #[u, itV (atomR 3 s)] w fun e w' => e = .returned (.bool true) ∧ Below w.heap.size w w' := by
  have HV : Hid (∀ W, Calls Tryz.prog 44 #[.agg #[.int .i64 3, .string s]] W fun e w' => e = .returned (.bool true) ∧ Below W.heap.size W w') := Lib.hid (vint hs)
  obtain ⟨U, rfl⟩ := hu
  clear hs
  unfold itV atomR
  have hb0 : Below w.heap.size w ((w.alloc (.cells #[.pointer (some ⟨U, 0, none⟩)] 46)).alloc (.cells #[.int .i64 0, .int .i64 3, .string s, .int .i64 0, .int .i64 0, .slice none 0 0, .slice none 0 0, .pointer none] 29)) := ((Below.refl _ w).alloc (Nat.le_refl _) _).alloc (by simp) _
  go_enter Tryz.func26, Tryz.ntmps26
  go_wp2_with fail
  refine (HV.out _).mono ?_
  rintro e w1 ⟨rfl, hb⟩
  have HB := Lib.hid (hb0.trans (hb.mono (by simp <;> omega)))
  clear hb hb0
  go_wp2
  go_ret
  exact ⟨rfl, HB.out⟩
/-- Two items, as they lie. -/
def twoC (x y : IRow) : Array Value := #[.int .i64 x.k, .int .i64 x.ak, .string x.tx, .int .i64 x.tr, .int .i64 x.nd, x.ps, x.ms, x.fn, .int .i64 y.k, .int .i64 y.ak, .string y.tx, .int .i64 y.tr, .int .i64 y.nd, y.ps, y.ms, y.fn]
theorem two_own {W : World} {L : Nat} {x y : IRow} (h : W.heap[L]? = some (.cells (twoC x y) 29 (0, 0))) : OwnI W 0 (.slice (some ⟨L, 0, none⟩) 2 2) [x, y] :=
  ⟨rfl, .inr ⟨L, 2, twoC x y, rfl, Nat.zero_le _, h, Nat.le_refl _, by simp [maxLen], rfl, rfl⟩⟩
theorem two_rd {W : World} {L : Nat} {x y : IRow} (h : W.heap[L]? = some (.cells (twoC x y) 29 (0, 0))) : RdI W [x, y] (.slice (some ⟨L, 0, none⟩) 2 2) := OwnI.reads (two_own h) (by simp [maxLen])
def puV (U : Nat) : Array Value := #[.pointer (some ⟨U, 0, none⟩)]
/-- Between two items of all: nodes. -/
structure NoS (w0 W : World) (Bu U M X Y L n k : Nat) : Prop where
  g : GrB w0 W (fun j => j = M)
  b : W.heap[Bu]? = some (.cells (puV U) 46 (0, 0))
  l : W.heap[L]? = some (.cells (twoC (nodeR 1) (nodeR 2)) 29 (0, 0))
  t : Tr W X Y
  u : ∃ n', n' ≤ n + 2 * k ∧ Us W U M n' (trV X) (if k = 0 then mD0 else mD2)
theorem NoS.go {w0 W W' : World} {Bu U M X Y L n k : Nat} (h : NoS w0 W Bu U M X Y L n k) (hb : Below W.heap.size W W') : NoS w0 W' Bu U M X Y L n k := by
  obtain ⟨n', h1, h2⟩ := h.u
  exact ⟨h.g.trans (GrB.of_below hb), (hb.block _ (lt_heap h.b)).trans h.b, (hb.block _ (lt_heap h.l)).trans h.l, h.t.below hb, n', h1, h2.go hb⟩
theorem NoS.step {w0 W W' : World} {Bu U M X Y L n k : Nat} (h : NoS w0 W Bu U M X Y L n k) (hg : GrB W W' (fun j => j = M)) (ht : Tr W' X Y) (hu : ∃ n', n' ≤ n + 2 * (k + 1) ∧ Us W' U M n' (trV X) mD2) : NoS w0 W' Bu U M X Y L n (k + 1) := by
  obtain ⟨n0, _, h2⟩ := h.u
  exact ⟨h.g.trans hg, (hg.block _ (lt_heap h.b) (map_ne h2.m h.b)).trans h.b, (hg.block _ (lt_heap h.l) (map_ne h2.m h.l)).trans h.l, ht, by simpa using hu⟩
def AllNP (w : World) (U M X Y n : Nat) (e : Ending) (w' : World) : Prop := e = .returned (.bool true) ∧ GrB w w' (fun k => k = M) ∧ (∃ n', n' ≤ n + 4 ∧ Us w' U M n' (trV X) mD2) ∧ Tr w' X Y
set_option maxRecDepth 100000 in
theorem all_nodes (U M X Y L n : Nat) (w : World) (hu : Us w U M n (trV X) mD0) (ht : Tr w X Y) (hl : w.heap[L]? = some (.cells (twoC (nodeR 1) (nodeR 2)) 29 (0, 0))) (hn : n ≤ 100) :
    Calls Tryz.prog 11 #[.pointer (some ⟨U, 0, none⟩), .slice (some ⟨L, 0, none⟩) 2 2] w (AllNP w U M X Y n) := by
  have HA : Hid (Calls Tryz.prog 24 #[.slice (some ⟨L, 0, none⟩) 2 2, .func (.func 25) #[] #[.pointer (some ⟨w.heap.size, 0, none⟩)]] (w.alloc (.cells (puV U) 46)) fun e w' => e = .returned (.bool false) ∧ NoS (w.alloc (.cells (puV U) 46)) w' w.heap.size U M X Y L n 2) := by
    refine Lib.hid (hasNone_any [nodeR 1, nodeR 2] _ _ _ ent_all _ (fun k W => NoS (w.alloc (.cells (puV U) 46)) W w.heap.size U M X Y L n k) (by simp) ?_ (fun k W h => two_rd h.l) (fun k W o h => h.go ((Below.refl _ _).alloc (Nat.le_refl _) _)) ?_ ?_)
    · intro r hr
      simp only [List.mem_cons, List.not_mem_nil, or_false] at hr
      rcases hr with rfl | rfl <;> exact ROk.nodeR _
    · have hb := box1 w 46 (puV U)
      exact ⟨GrB.refl _ _, hp_new rfl, hp_past hl, ht.below hb, n, by omega, by simpa using hu.go hb⟩
    · intro k r W hk hS
      match k, hk with
      | 0, hk =>
        cases hk
        obtain ⟨n0, hn0, h0⟩ := hS.u
        refine (all1_ex (nodeR 1) (ROk.nodeR 1) _ U W hS.b (fun V w' => GrB V w' (fun k => k = M) ∧ (∃ n', n' ≤ n0 + 2 ∧ Us w' U M n' (trV X) mD2) ∧ Tr w' X Y) (fun V hV => ?_)).mono ?_
        · exact can_first U M X Y n0 V (by simpa using h0.go hV) (hS.t.below hV) (by omega)
        · rintro e w' ⟨rfl, V, hV, hg, ⟨n', hn', hu'⟩, ht'⟩
          exact ⟨rfl, (hS.go hV).step hg ht' ⟨n', by omega, hu'⟩⟩
      | 1, hk =>
        cases hk
        obtain ⟨n0, hn0, h0⟩ := hS.u
        refine (all1_ex (nodeR 2) (ROk.nodeR 2) _ U W hS.b (fun V w' => GrB V w' (fun k => k = M) ∧ (∃ n', n' ≤ n0 + 2 ∧ Us w' U M n' (trV X) mD2) ∧ Tr w' X Y) (fun V hV => ?_)).mono ?_
        · exact can_next U M X Y n0 V (by simpa using h0.go hV) (hS.t.below hV) (by omega)
        · rintro e w' ⟨rfl, V, hV, hg, ⟨n', hn', hu'⟩, ht'⟩
          exact ⟨rfl, (hS.go hV).step hg ht' ⟨n', by omega, hu'⟩⟩
  clear hu ht hl hn
  go_enter Tryz.func11, Tryz.ntmps11
  go_wp2_with fail
  refine HA.out.mono ?_
  rintro e w1 ⟨rfl, hS⟩
  have HS := Lib.hid hS
  clear hS
  go_wp2
  go_ret
  refine ⟨rfl, (GrB.of_below (box1 w _ _)).trans HS.out.g, ?_, HS.out.t⟩
  obtain ⟨n', h1, h2⟩ := HS.out.u
  exact ⟨n', by omega, by simpa using h2⟩
/-- Between two items of all: atoms. -/
structure AtS (w0 W : World) (Bu U L : Nat) (x y : IRow) : Prop where
  g : Below w0.heap.size w0 W
  b : W.heap[Bu]? = some (.cells (puV U) 46 (0, 0))
  l : W.heap[L]? = some (.cells (twoC x y) 29 (0, 0))
theorem AtS.go {w0 W W' : World} {Bu U L : Nat} {x y : IRow} (h : AtS w0 W Bu U L x y) (hb : Below W.heap.size W W') : AtS w0 W' Bu U L x y :=
  ⟨h.g.trans (hb.mono h.g.size), (hb.block _ (lt_heap h.b)).trans h.b, (hb.block _ (lt_heap h.l)).trans h.l⟩
set_option maxRecDepth 100000 in
theorem all_atoms (U L : Nat) (s t : ByteArray) (hs : s = d1 ∨ s = d2 ∨ s = d3) (ht : t = d1 ∨ t = d2 ∨ t = d3) (w : World) (hl : w.heap[L]? = some (.cells (twoC (atomR 3 s) (atomR 3 t)) 29 (0, 0))) :
    Calls Tryz.prog 11 #[.pointer (some ⟨U, 0, none⟩), .slice (some ⟨L, 0, none⟩) 2 2] w fun e w' => e = .returned (.bool true) ∧ Below w.heap.size w w' := by
  have HA : Hid (Calls Tryz.prog 24 #[.slice (some ⟨L, 0, none⟩) 2 2, .func (.func 25) #[] #[.pointer (some ⟨w.heap.size, 0, none⟩)]] (w.alloc (.cells (puV U) 46)) fun e w' => e = .returned (.bool false) ∧ AtS (w.alloc (.cells (puV U) 46)) w' w.heap.size U L (atomR 3 s) (atomR 3 t)) := by
    refine Lib.hid (hasNone_any [atomR 3 s, atomR 3 t] _ _ _ ent_all _ (fun _ W => AtS (w.alloc (.cells (puV U) 46)) W w.heap.size U L (atomR 3 s) (atomR 3 t)) (by simp) ?_ (fun k W h => two_rd h.l) (fun k W o h => h.go ((Below.refl _ _).alloc (Nat.le_refl _) _)) ⟨Below.refl _ _, hp_new rfl, hp_past hl⟩ ?_)
    · intro r hr
      simp only [List.mem_cons, List.not_mem_nil, or_false] at hr
      rcases hr with rfl | rfl <;> exact ROk.atomR _ _
    · intro k r W hk hS
      have hr : ∃ q : ByteArray, (q = d1 ∨ q = d2 ∨ q = d3) ∧ r = atomR 3 q := by
        match k, hk with
        | 0, hk => cases hk; exact ⟨s, hs, rfl⟩
        | 1, hk => cases hk; exact ⟨t, ht, rfl⟩
      obtain ⟨q, hq, rfl⟩ := hr
      refine (all1_ex (atomR 3 q) (ROk.atomR 3 q) _ U W hS.b (fun V w' => Below V.heap.size V w') (fun V hV => can_atom q hq _ ⟨U, rfl⟩ V)).mono ?_
      rintro e w' ⟨rfl, V, hV, hb⟩
      exact ⟨rfl, (hS.go hV).go hb⟩
  clear hs ht hl
  go_enter Tryz.func11, Tryz.ntmps11
  go_wp2_with fail
  refine HA.out.mono ?_
  rintro e w1 ⟨rfl, hS⟩
  have HS := Lib.hid hS
  clear hS
  go_wp2
  go_ret
  exact ⟨rfl, (box1 w _ _).trans (HS.out.g.mono (by simp))⟩
end Go.Proofs.YtajkdllakleakaaGreatDoor
