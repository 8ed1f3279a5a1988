/- Chapter 16: whole numbers are numbers: is, convert and of at the type 'number+'. -/
import Derived.Test.YtajkdllakleakaaGreatDoorMTq
import Derived.Test.YtajkdllakleakaaGreatDoorMUa
namespace Go.Proofs.YtajkdllakleakaaGreatDoor
open Go.RowKit
set_option linter.unusedVariables false
set_option linter.unusedSimpArgs false

def plS : ByteArray := { data := #[43] }
/-- One number or more. -/
def plT : TyP := ⟨4, 0, 0, nS, plS⟩
def plC : Array Value := #[.int .i64 4, .int .i64 0, .int .i64 0, .string nS, .string plS]
theorem typeB_pl : typeB plT = true := by decide +kernel
theorem bnd_pl : bndB ⟨4, 0, 0, nS, plS⟩ = (1, 0, true) := by decide +kernel
set_option maxRecDepth 100000 in
theorem is_num (s : ByteArray) (u : Value) (w : World) :
    Calls Tryz.prog 28 #[u, itV (atomR 3 s), tyV plT] w fun e w' => e = .returned (.bool true) ∧ Below w.heap.size w w' := by
  unfold itV atomR tyV plT
  go_enter Tryz.func28, Tryz.ntmps28
  go_wp2_with fail
  refine (number_any 3 _).mono ?_
  rintro e w1 ⟨rfl, rfl⟩
  go_wp2
  go_ret
  exact ⟨rB (by decide), ((Below.refl _ w).alloc (Nat.le_refl _) _).alloc (by simp) _⟩
set_option maxRecDepth 100000 in
set_option maxHeartbeats 2000000 in
theorem convert_num (s : ByteArray) (u : Value) (w : World) :
    Calls Tryz.prog 13 #[u, .agg #[.int .i64 3, .string s], tyV plT] w fun e w' => e = .returned (.tuple #[itV (atomR 3 s), .int .i64 0]) ∧ Below w.heap.size w w' := by
  have HI : Hid (∀ W, Calls Tryz.prog 28 #[u, .agg #[.int .i64 0, .int .i64 3, .string s, .int .i64 0, .int .i64 0, .slice none 0 0, .slice none 0 0, .pointer none], .agg #[.int .i64 4, .int .i64 0, .int .i64 0, .string nS, .string plS]] W fun e w' => e = .returned (.bool true) ∧ Below W.heap.size W w') := Lib.hid fun W => is_num s u W
  have hinfo : (Tryz.prog.info? 29).map (fun i => i.size) = some 8 := by kernel_rfl
  unfold tyV plT
  simp only
  go_enter Tryz.func13, Tryz.ntmps13
  go_wp2_with fail
  obtain ⟨W0, hW0⟩ : ∃ W0, ((((w.alloc (.cells #[.int .i64 3, .string s] 24)).alloc (.cells #[.int .i64 4, .int .i64 0, .int .i64 0, .string nS, .string plS] 37)).alloc (.cells #[.int .i64 0, .int .i64 0, .string eS, .int .i64 0, .int .i64 0, .slice none 0 0, .slice none 0 0, .pointer none] 29)).alloc (.cells #[.int .i64 0, .int .i64 3, .string s, .int .i64 0, .int .i64 0, .slice none 0 0, .slice none 0 0, .pointer none] 29)) = W0 := ⟨_, rfl⟩
  have hb0 : Below w.heap.size w W0 := hW0 ▸ ((((Below.refl _ w).alloc (Nat.le_refl _) _).alloc (by simp) _).alloc (by simp <;> omega) _).alloc (by simp <;> omega) _
  have e2 : W0.heap[w.heap.size + 1 + 1]? = some (.cells #[.int .i64 0, .int .i64 0, .string eS, .int .i64 0, .int .i64 0, .slice none 0 0, .slice none 0 0, .pointer none] 29 (0, 0)) := hW0 ▸ hp_past (hp_new (by simp))
  have e3 : W0.heap[w.heap.size + 1 + 1 + 1]? = some (.cells #[.int .i64 0, .int .i64 3, .string s, .int .i64 0, .int .i64 0, .slice none 0 0, .slice none 0 0, .pointer none] 29 (0, 0)) := hW0 ▸ hp_new (by simp)
  have hlt0 : w.heap.size + 1 + 1 + 1 < W0.heap.size := (Array.getElem?_eq_some_iff.1 e3).1
  refine (HI.out _).mono ?_
  rintro e w1 ⟨rfl, hb⟩
  rw [hW0] at hb
  have HB1 := Lib.hid (hb0.trans (hb.mono hb0.size))
  have HX1 := Lib.hid ((hb.block _ (by omega)).trans e2)
  have HZ1 := Lib.hid ((hb.block _ hlt0).trans e3)
  clear hb hb0 e2 e3 hlt0 hW0 HI
  obtain ⟨a0, a1, a2, a3, a4, a5, a6, a7⟩ := blk8c HZ1.out
  go_wp2_with (refine wpList_store_row rfl 29 (.tmp 6) (.tmp 24) rfl (w.heap.size + 1 + 1) ?cells ?hx ?hy 29 ?old ?hg ?hi ?hold ?h1 ?_)
  case hx => rfl
  case hy => rfl
  case old => exact #[.int .i64 0, .int .i64 0, .string eS, .int .i64 0, .int .i64 0, .slice none 0 0, .slice none 0 0, .pointer none]
  case hg => exact HX1.out
  case hi => exact hinfo
  case hold => rfl
  case h1 => simp [Value.oneCell']
  have x5 := setRow_heap _ _ _ #[.int .i64 0, .int .i64 3, .string s, .int .i64 0, .int .i64 0, .slice none 0 0, .slice none 0 0, .pointer none] _ _ HX1.out
  obtain ⟨f0, f1, f2, f3, f4, f5, f6, f7⟩ := blk8c x5
  clear a0 a1 a2 a3 a4 a5 a6 a7
  go_wp2
  refine bodyPost_ret (v := .tuple #[itV (atomR 3 s), .int .i64 0]) ?_ rfl ⟨rfl, ?_⟩
  · simp [results, Tryz.results13, go_sem, f0, f1, f2, f3, f4, f5, f6, f7, itV, atomR]
  · exact bel_rowT HB1.out (by omega) _
set_option maxRecDepth 100000 in
theorem of1_num (s : ByteArray) (Bu Bt U : Nat) (w : World) (hbu : w.heap[Bu]? = some (.cells (puV U) 46 (0, 0))) (hbt : w.heap[Bt]? = some (.cells plC 37 (0, 0))) :
    Calls Tryz.prog 31 #[itV (atomR 3 s), .pointer (some ⟨Bu, 0, none⟩), .pointer (some ⟨Bt, 0, none⟩)] w fun e w' => e = .returned (.bool false) ∧ Below w.heap.size w w' := by
  have HI : Hid (∀ W, Calls Tryz.prog 28 #[.pointer (some ⟨U, 0, none⟩), .agg #[.int .i64 0, .int .i64 3, .string s, .int .i64 0, .int .i64 0, .slice none 0 0, .slice none 0 0, .pointer none], .agg #[.int .i64 4, .int .i64 0, .int .i64 0, .string nS, .string plS]] W fun e w' => e = .returned (.bool true) ∧ Below W.heap.size W w') := Lib.hid fun W => is_num s _ W
  have c0 : (w.alloc (.cells #[.int .i64 0, .int .i64 3, .string s, .int .i64 0, .int .i64 0, .slice none 0 0, .slice none 0 0, .pointer none] 29)).cell? ⟨Bu, 0, none⟩ = some (.pointer (some ⟨U, 0, none⟩)) := cell_of_row _ _ 0 _ _ _ (hp_past hbu)
  obtain ⟨b0, b1, b2, b3, b4⟩ := cells5 (show (w.alloc (.cells #[.int .i64 0, .int .i64 3, .string s, .int .i64 0, .int .i64 0, .slice none 0 0, .slice none 0 0, .pointer none] 29)).heap[Bt]? = some (.cells #[.int .i64 4, .int .i64 0, .int .i64 0, .string nS, .string plS] 37 (0, 0)) from hp_past hbt)
  clear hbu hbt
  unfold itV atomR
  go_enter Tryz.func31, Tryz.ntmps31
  go_wp2_with fail
  refine (HI.out _).mono ?_
  rintro e w1 ⟨rfl, hb⟩
  have HB := Lib.hid ((box1 w _ _).trans (hb.mono (by simp)))
  clear hb
  go_wp2
  go_ret
  exact ⟨rfl, HB.out⟩
/-- Between two items of of. -/
structure OnS (w0 W : World) (Bu Bt U : Nat) (l : List IRow) (v : Value) : Prop where
  g : Below w0.heap.size w0 W
  b : W.heap[Bu]? = some (.cells (puV U) 46 (0, 0))
  t : W.heap[Bt]? = some (.cells plC 37 (0, 0))
  l : RdI W l v
theorem OnS.go {w0 W W' : World} {Bu Bt U : Nat} {l : List IRow} {v : Value} (h : OnS w0 W Bu Bt U l v) (hb : Below W.heap.size W W') : OnS w0 W' Bu Bt U l v :=
  ⟨h.g.trans (hb.mono h.g.size), (hb.block _ (lt_heap h.b)).trans h.b, (hb.block _ (lt_heap h.t)).trans h.t, RdRows.below h.l hb⟩
theorem has_num (l : List IRow) (v : Value) (hn : l.length ≤ 1000000) (hat : ∀ r, r ∈ l → ∃ s, r = atomR 3 s) (Bu Bt U : Nat) (w : World) (h : OnS w w Bu Bt U l v) :
    Calls Tryz.prog 24 #[v, .func (.func 31) #[] #[.pointer (some ⟨Bu, 0, none⟩), .pointer (some ⟨Bt, 0, none⟩)]] w fun e w' => e = .returned (.bool false) ∧ Below w.heap.size w w' := by
  refine (hasNone2_any l _ _ _ ent_of _ _ (fun _ W => OnS w W Bu Bt U l v) hn ?_ (fun k W h => h.l) (fun k W o h => h.go ((Below.refl _ _).alloc (Nat.le_refl _) _)) h ?_).mono ?_
  · intro r hr
    obtain ⟨s, rfl⟩ := hat r hr
    exact ROk.atomR _ _
  · intro k r W hk hS
    obtain ⟨q, rfl⟩ := hat r (List.mem_of_getElem? hk)
    refine (of1_num q Bu Bt U W hS.b hS.t).mono ?_
    rintro e w' ⟨rfl, hb⟩
    exact ⟨rfl, hS.go hb⟩
  · rintro e w' ⟨rfl, hS⟩
    exact ⟨rfl, hS.g⟩
set_option maxRecDepth 100000 in
theorem of_num (l : List IRow) (v : Value) (hn : l.length ≤ 1000000) (h0 : 0 < l.length) (hat : ∀ r, r ∈ l → ∃ s, r = atomR 3 s) (U : Nat) (w : World) (hl : RdI w l v) :
    Calls Tryz.prog 14 #[.pointer (some ⟨U, 0, none⟩), v, tyV plT] w fun e w' => e = .returned (.bool true) ∧ Below w.heap.size w w' := by
  have HBn : Hid (∀ W, Calls Tryz.prog 22 #[.agg #[.int .i64 4, .int .i64 0, .int .i64 0, .string nS, .string plS]] W (BndP plT W)) := Lib.hid fun W => bounds_any plT W
  have HH : Hid (∀ W, OnS W W w.heap.size (w.heap.size + 1) U l v → Calls Tryz.prog 24 #[v, .func (.func 31) #[] #[.pointer (some ⟨w.heap.size, 0, none⟩), .pointer (some ⟨w.heap.size + 1, 0, none⟩)]] W fun e w' => e = .returned (.bool false) ∧ Below W.heap.size W w') := Lib.hid fun W h => has_num l v hn hat _ _ U W h
  have hb0 := bel2 w (puV U) plC 46 37
  have HO : Hid (OnS w ((w.alloc (.cells (puV U) 46)).alloc (.cells plC 37)) w.heap.size (w.heap.size + 1) U l v) := Lib.hid ⟨hb0, hp_past (hp_new rfl), hp_new (by simp), RdRows.below hl hb0⟩
  obtain ⟨A, c, rfl, hm⟩ := hl.form
  have h0' : ¬ ((l.length : Nat) : Int) < 1 := by omega
  clear hl hb0 hat hm
  unfold tyV plT BndP at *
  simp only [bnd_pl] at HBn ⊢
  unfold puV plC at HO
  go_enter Tryz.func14, Tryz.ntmps14
  go_wp2_with fail
  refine (HBn.out _).mono ?_
  rintro e w1 ⟨rfl, hb⟩
  have HO1 := Lib.hid (HO.out.go hb)
  clear hb HO HBn
  go_wp2_with fail
  refine (HH.out _ ⟨Below.refl _ _, HO1.out.b, HO1.out.t, HO1.out.l⟩).mono ?_
  rintro e w2 ⟨rfl, hb⟩
  have HB2 := Lib.hid (HO1.out.g.trans (hb.mono HO1.out.g.size))
  clear hb HO1
  go_wp2
  go_ret
  exact ⟨rfl, HB2.out⟩
end Go.Proofs.YtajkdllakleakaaGreatDoor
