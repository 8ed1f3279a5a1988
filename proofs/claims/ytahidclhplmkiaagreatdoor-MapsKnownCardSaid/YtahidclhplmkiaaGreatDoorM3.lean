/- What is within the bounds: fits, within, arrayOf of both packages; light. -/
import Derived.Test.YtahidclhplmkiaaGreatDoorMInp
import Derived.Test.YtahidclhplmkiaaGreatDoorMIe
import Derived.Maps.OwnOps
import Derived.DeepKeys4
import Derived.Laws.StructEq
namespace Go.Proofs.YtahidclhplmkiaaGreatDoor
open Go.RowKit
set_option linter.unusedVariables false
set_option linter.unusedSimpArgs false

/-- An item with nothing in it; an array. -/
def z0 : IRow := ⟨0, 0, { data := #[] }, 0, 0, .slice none 0 0, .slice none 0 0, .pointer none⟩
def aR (v : Value) : IRow := ⟨3, 0, { data := #[] }, 0, 0, .slice none 0 0, v, .pointer none⟩
theorem ROk.z0 : ROk z0 := ⟨rfl, rfl, rfl⟩
theorem ROk.aR {w : World} {ms : List Value} {v : Value} (h : RdM w ms v) : ROk (aR v) := by
  obtain ⟨A, c, rfl, _⟩ := h.form
  exact ⟨rfl, rfl, rfl⟩
/-- Members, each a sequence. -/
abbrev MemS (w : World) (d : Nat) (ms : List Value) (n b : Nat) (f : List IRow) : Prop := SumR (fun (v : Value) n b f => ∃ n', SqR w d v n' b f ∧ n = 1 + n') ms n b f
theorem MemS.below {w W : World} {d : Nat} {ms : List Value} {n b : Nat} {f : List IRow} (hb : Below w.heap.size w W) (h : MemS w d ms n b f) : MemS W d ms n b f :=
  h.mono fun x n b f ⟨n', h1, h2⟩ => ⟨n', SqR.below hb d h1, h2⟩
theorem aR_it {w : World} {d : Nat} {ms : List Value} {v : Value} {n b : Nat} {f : List IRow} (h : RdM w ms v) (hs : MemS w d ms n b f) : ItP w (SqR w d) (aR v) (1 + n) b f :=
  ⟨.aR h, .inr (.inr (.inr (.inl ⟨rfl, ms, n, h, hs, rfl⟩)))⟩
/-- A slice of one item, in a new block. -/
theorem one_sq {W : World} {d X : Nat} {r : IRow} {n b : Nat} {f : List IRow} (h : ItP W (SqR W d) r n b f) (hx : ICells W X 0 r) (hlt : X < W.heap.size) : SqR W (d + 1) (.slice (some ⟨X, 0, none⟩) 1 1) n b f := by
  refine ⟨[r], ⟨some ⟨X, 0, none⟩, 1, rfl, ⟨fun e => (by cases e), Nat.le_refl _, by simp [maxLen]⟩, fun _ => ⟨X, 0, rfl, hlt, fun j hj i hi => ?_⟩⟩, SumR.one h⟩
  obtain rfl : j = 0 := by simp at hj; omega
  rw [Nat.zero_mul, Nat.add_zero, Nat.zero_add]
  obtain ⟨h0, h1, h2, h3, h4, h5, h6, h7⟩ := hx
  have e : i = 0 ∨ i = 1 ∨ i = 2 ∨ i = 3 ∨ i = 4 ∨ i = 5 ∨ i = 6 ∨ i = 7 := by omega
  rcases e with rfl | rfl | rfl | rfl | rfl | rfl | rfl | rfl
  · exact h0
  · exact h1
  · exact h2
  · exact h3
  · exact h4
  · exact h5
  · exact h6
  · exact h7
def FitP (x : Bool) (w : World) (e : Ending) (w' : World) : Prop := e = .returned (.bool x) ∧ Below w.heap.size w w'
theorem fit_eq (n b : Nat) : (decide ((szN n b : Int) ≤ 262144) && decide ((szB n b : Int) ≤ 4194304)) = !ovB n b := by
  cases h : ovB n b with
  | true => rw [(size_ov h).1, (size_ov h).2]; rfl
  | false =>
    rw [(size_no h).1, (size_no h).2]
    simp only [ovB, Bool.or_eq_false_iff, decide_eq_false_iff_not] at h
    simp; omega
set_option maxRecDepth 100000 in
theorem fits_any {w : World} {d : Nat} {v : Value} {n b : Nat} {f : List IRow} (h : SqR w d v n b f) (hn : n ≤ 4000000) (hb : b ≤ 40000000) :
    Calls Tryz.prog 38 #[v] w (FitP (!ovB n b) w) := by
  have HK := Lib.hid (size_any h hn hb)
  have HE := Lib.hid (fit_eq n b)
  clear h
  go_enter Tryz.func38, Tryz.ntmps38
  go_wp2_with fail
  refine HK.out.mono ?_
  rintro e w1 ⟨rfl, hb1⟩
  have HB := Lib.hid hb1
  clear hb1
  generalize szN n b = N at *
  generalize szB n b = B at *
  by_cases h1 : (N : Int) ≤ 262144
  · have t1 : decide ((N : Int) ≤ 262144) = true := by simpa using h1
    rw [t1, Bool.true_and] at HE
    go_wp2
    go_ret
    exact ⟨rB HE.out, HB.out⟩
  · have t1 : decide ((N : Int) ≤ 262144) = false := by simpa using h1
    rw [t1, Bool.false_and] at HE
    go_wp2
    go_ret
    exact ⟨rB HE.out, HB.out⟩
theorem blk8c {W : World} {X : Nat} {t : TypeId} {a0 a1 a2 a3 a4 a5 a6 a7 : Value} (h : W.heap[X]? = some (.cells #[a0, a1, a2, a3, a4, a5, a6, a7] t (0, 0))) :
    W.cell? ⟨X, 0, none⟩ = some a0 ∧ W.cell? ⟨X, 1, none⟩ = some a1 ∧ W.cell? ⟨X, 2, none⟩ = some a2 ∧ W.cell? ⟨X, 3, none⟩ = some a3 ∧ W.cell? ⟨X, 4, none⟩ = some a4 ∧ W.cell? ⟨X, 5, none⟩ = some a5 ∧ W.cell? ⟨X, 6, none⟩ = some a6 ∧ W.cell? ⟨X, 7, none⟩ = some a7 := by
  refine ⟨?_, ?_, ?_, ?_, ?_, ?_, ?_, ?_⟩ <;> (rw [cell_of_row W X _ _ t _ h]; rfl)
theorem blk8f {W : World} {X : Nat} {t : TypeId} {cs : Array Value} (h : W.heap[X]? = some (.cells cs t (0, 0))) :
    W.frozen? ⟨X, 0, none⟩ = false ∧ W.frozen? ⟨X, 1, none⟩ = false ∧ W.frozen? ⟨X, 2, none⟩ = false ∧ W.frozen? ⟨X, 3, none⟩ = false ∧ W.frozen? ⟨X, 4, none⟩ = false ∧ W.frozen? ⟨X, 5, none⟩ = false ∧ W.frozen? ⟨X, 6, none⟩ = false ∧ W.frozen? ⟨X, 7, none⟩ = false := by
  refine ⟨?_, ?_, ?_, ?_, ?_, ?_, ?_, ?_⟩ <;> simp [World.frozen?, h]
theorem icells_at {W : World} {X : Nat} {t : TypeId} {k ak tr nd : Int} {tx : ByteArray} {ps ms fn : Value} (h : W.heap[X]? = some (.cells #[.int .i64 k, .int .i64 ak, .string tx, .int .i64 tr, .int .i64 nd, ps, ms, fn] t (0, 0))) : ICells W X 0 ⟨k, ak, tx, tr, nd, ps, ms, fn⟩ := blk8c h
def set8 (W : World) (X : Nat) (b0 b1 b2 b3 b4 b5 b6 b7 : Value) : World := (((((((W.setCell ⟨X, 0, none⟩ b0).setCell ⟨X, 1, none⟩ b1).setCell ⟨X, 2, none⟩ b2).setCell ⟨X, 3, none⟩ b3).setCell ⟨X, 4, none⟩ b4).setCell ⟨X, 5, none⟩ b5).setCell ⟨X, 6, none⟩ b6).setCell ⟨X, 7, none⟩ b7
theorem blk_set {W : World} {X i : Nat} {t : TypeId} {cs : Array Value} (h : W.heap[X]? = some (.cells cs t (0, 0))) (v : Value) : (W.setCell ⟨X, i, none⟩ v).heap[X]? = some (.cells (cs.setIfInBounds i v) t (0, 0)) := by
  unfold World.setCell
  simp [Array.getElem?_modify, h]
theorem st8 {W : World} {X : Nat} {t : TypeId} {a0 a1 a2 a3 a4 a5 a6 a7 : Value} (h : W.heap[X]? = some (.cells #[a0, a1, a2, a3, a4, a5, a6, a7] t (0, 0))) (b0 b1 b2 b3 b4 b5 b6 b7 : Value) :
    (set8 W X b0 b1 b2 b3 b4 b5 b6 b7).heap[X]? = some (.cells #[b0, b1, b2, b3, b4, b5, b6, b7] t (0, 0)) := by
  unfold set8
  have h0 := blk_set (i := 0) h b0
  rw [show (#[a0, a1, a2, a3, a4, a5, a6, a7] : Array Value).setIfInBounds 0 b0 = #[b0, a1, a2, a3, a4, a5, a6, a7] from rfl] at h0
  have h1 := blk_set (i := 1) h0 b1
  rw [show (#[b0, a1, a2, a3, a4, a5, a6, a7] : Array Value).setIfInBounds 1 b1 = #[b0, b1, a2, a3, a4, a5, a6, a7] from rfl] at h1
  have h2 := blk_set (i := 2) h1 b2
  rw [show (#[b0, b1, a2, a3, a4, a5, a6, a7] : Array Value).setIfInBounds 2 b2 = #[b0, b1, b2, a3, a4, a5, a6, a7] from rfl] at h2
  have h3 := blk_set (i := 3) h2 b3
  rw [show (#[b0, b1, b2, a3, a4, a5, a6, a7] : Array Value).setIfInBounds 3 b3 = #[b0, b1, b2, b3, a4, a5, a6, a7] from rfl] at h3
  have h4 := blk_set (i := 4) h3 b4
  rw [show (#[b0, b1, b2, b3, a4, a5, a6, a7] : Array Value).setIfInBounds 4 b4 = #[b0, b1, b2, b3, b4, a5, a6, a7] from rfl] at h4
  have h5 := blk_set (i := 5) h4 b5
  rw [show (#[b0, b1, b2, b3, b4, a5, a6, a7] : Array Value).setIfInBounds 5 b5 = #[b0, b1, b2, b3, b4, b5, a6, a7] from rfl] at h5
  have h6 := blk_set (i := 6) h5 b6
  rw [show (#[b0, b1, b2, b3, b4, b5, a6, a7] : Array Value).setIfInBounds 6 b6 = #[b0, b1, b2, b3, b4, b5, b6, a7] from rfl] at h6
  have h7 := blk_set (i := 7) h6 b7
  rw [show (#[b0, b1, b2, b3, b4, b5, b6, a7] : Array Value).setIfInBounds 7 b7 = #[b0, b1, b2, b3, b4, b5, b6, b7] from rfl] at h7
  exact h7
theorem below_set8 {B : Nat} {w W : World} {X : Nat} (h : Below B w W) (hX : B ≤ X) (b0 b1 b2 b3 b4 b5 b6 b7 : Value) : Below B w (set8 W X b0 b1 b2 b3 b4 b5 b6 b7) :=
  (((((((h.setCell hX _).setCell hX _).setCell hX _).setCell hX _).setCell hX _).setCell hX _).setCell hX _).setCell hX _
/-- An item that is not too large comes back. -/
def WithP (r : IRow) (w : World) (e : Ending) (w' : World) : Prop := e = .returned (.tuple #[itV r, .int .i64 0]) ∧ Below w.heap.size w w'
set_option maxRecDepth 100000 in
theorem within_any {w : World} {d : Nat} {r : IRow} {n b : Nat} {f : List IRow} (h : ItP w (SqR w d) r n b f) (ho : ovB n b = false) (hn : n ≤ 4000000) (hb : b ≤ 40000000) :
    Calls Tryz.prog 24 #[itV r] w (WithP r w) := by
  have H := Lib.hid h
  have hok := h.1
  obtain ⟨k, ak, tx, tr, nd, ps, ms, fn⟩ := r
  have sps := fun w a m => run_store Tryz.prog w a ps m hok.ps
  have sms := fun w a m => run_store Tryz.prog w a ms m hok.ms
  have sfn := fun w a m => run_store Tryz.prog w a fn m hok.fn
  have ops := hok.ps
  have oms := hok.ms
  have ofn := hok.fn
  dsimp only at ops oms ofn
  clear hok h
  simp only [itV]
  go_enter Tryz.func24, Tryz.ntmps24
  go_wp2_with fail
  have hb3 := ((box1 w 30 #[.int .i64 k, .int .i64 ak, .string tx, .int .i64 tr, .int .i64 nd, ps, ms, fn]).alloc (by simp) (.cells #[.int .i64 0, .int .i64 0, .string { data := #[] }, .int .i64 0, .int .i64 0, .slice none 0 0, .slice none 0 0, .pointer none] 30)).alloc (by simp; omega) (.cells #[.int .i64 k, .int .i64 ak, .string tx, .int .i64 tr, .int .i64 nd, ps, ms, fn] 30)
  refine (fits_any (one_sq (H.out.below hb3 |>.mono fun v n b f g => SqR.below hb3 d g) (icells_at (hp_new (w := (w.alloc (.cells #[.int .i64 k, .int .i64 ak, .string tx, .int .i64 tr, .int .i64 nd, ps, ms, fn] 30)).alloc (.cells #[.int .i64 0, .int .i64 0, .string { data := #[] }, .int .i64 0, .int .i64 0, .slice none 0 0, .slice none 0 0, .pointer none] 30)) (by simp))) (by simp)) hn hb).mono ?_
  rintro e w1 ⟨rfl, hb1⟩
  have x0 := (hb1.block w.heap.size (by simp; omega)).trans (hp_past (hp_past (hp_new (w := w) (o := .cells #[.int .i64 k, .int .i64 ak, .string tx, .int .i64 tr, .int .i64 nd, ps, ms, fn] 30) rfl)))
  have x1 := (hb1.block (w.heap.size + 1) (by simp)).trans (hp_past (hp_new (w := w.alloc (.cells #[.int .i64 k, .int .i64 ak, .string tx, .int .i64 tr, .int .i64 nd, ps, ms, fn] 30)) (B := w.heap.size + 1) (o := .cells #[.int .i64 0, .int .i64 0, .string { data := #[] }, .int .i64 0, .int .i64 0, .slice none 0 0, .slice none 0 0, .pointer none] 30) (by simp)))
  obtain ⟨c0, c1, c2, c3, c4, c5, c6, c7⟩ := blk8c x0
  obtain ⟨d0, d1, d2, d3, d4, d5, d6, d7⟩ := blk8c x1
  obtain ⟨e0, e1, e2, e3, e4, e5, e6, e7⟩ := blk8f x1
  have HX := Lib.hid x1
  have HB := Lib.hid (hb3.trans (hb1.mono (by simp; omega)))
  clear hb1 hb3 x0 x1
  have hov : ovB n b = false := ho
  go_wp2
  obtain ⟨f0, f1, f2, f3, f4, f5, f6, f7⟩ := blk8c (st8 HX.out (.int .i64 k) (.int .i64 ak) (.string tx) (.int .i64 tr) (.int .i64 nd) ps ms fn)
  refine bodyPost_ret (v := .tuple #[.agg #[.int .i64 k, .int .i64 ak, .string tx, .int .i64 tr, .int .i64 nd, ps, ms, fn], .int .i64 0]) (w := set8 w1 (w.heap.size + 1) (.int .i64 k) (.int .i64 ak) (.string tx) (.int .i64 tr) (.int .i64 nd) ps ms fn) ?_ rfl ⟨rfl, ?_⟩
  · generalize set8 w1 (w.heap.size + 1) (.int .i64 k) (.int .i64 ak) (.string tx) (.int .i64 tr) (.int .i64 nd) ps ms fn = W at *
    simp [results, Tryz.results24, go_sem, f0, f1, f2, f3, f4, f5, f6, f7]
  · exact below_set8 HB.out (by omega) ..
end Go.Proofs.YtahidclhplmkiaaGreatDoor
/- Package maps, keys: classOf, entry, isMap at the keys of the examples. -/
namespace Go.Proofs.YtahidclhplmkiaaGreatDoor
open Go.RowKit
set_option linter.unusedVariables false
set_option linter.unusedSimpArgs false

theorem box1d (w : World) (t : TypeId) (cs : Array Value) : Below w.heap.size w (w.alloc (.cells cs t)).drew := (box1 w t cs).drew
/-- The class of an exact number. -/
def clsV (s : ByteArray) : Value := .agg #[.int .i64 4, .string s]
set_option maxRecDepth 100000 in
theorem classOf_any (k : Int) (s : ByteArray) (w : World) (hk : k = 3 ∨ k = 4) : Calls Tryz.prog 31 #[.agg #[.int .i64 k, .string s]] w fun e w' => e = .returned (clsV s) ∧ Below w.heap.size w w' := by
  rcases hk with rfl | rfl
  all_goals
    go_enter Tryz.func31, Tryz.ntmps31
    go_wp2
    refine bodyPost_ret (v := clsV s) ?_ rfl ⟨rfl, ?_⟩
    · simp [results, Tryz.results31, go_sem, clsV]
    · exact ((Below.refl _ _).alloc (Nat.le_refl _) _).alloc (by simp) _
set_option maxRecDepth 100000 in
theorem cls_eq (s s' : ByteArray) (w : World) : (binOp .eql 69 (.agg #[.int .i64 4, .string s]) (.agg #[.int .i64 4, .string s'])).run Tryz.prog w = .ok (.bool (s.toList == s'.toList)) w := by
  have hS : Tryz.prog.underlying 69 = some (.struct (Tryz.prog.fieldsOf 69)) := by kernel_rfl
  have hp : Tryz.prog.stoodInHeld 69 = false := by kernel_rfl
  rw [run_eql_struct, show (10000 : Nat) = 9999 + 1 from rfl, run_equalIn_agg w 9999 69 _ _ hS hp]
  simp only [Program.fieldsOf, Tryz.underlying69]
  go_simp
  by_cases h : s.toList = s'.toList <;> simp [h]
set_option maxRecDepth 100000 in
theorem entry1_any (k : Int) (s t : ByteArray) (v : Value) (X : Nat) (w : World) (hk : k = 3 ∨ k = 4) (hv : v.oneCell' = true) (hX : X < w.heap.size) (c0 : w.cell? ⟨X, 0, none⟩ = some (.int .i64 4)) (c1 : w.cell? ⟨X, 1, none⟩ = some (.string t)) :
    Calls Tryz.prog 45 #[.agg #[.int .i64 k, .string s, v], .pointer (some ⟨X, 0, none⟩)] w fun e w' => e = .returned (.bool (s.toList == t.toList)) ∧ Below w.heap.size w w' := by
  have sv := fun w a m => run_store Tryz.prog w a v m hv
  have HK := Lib.hid hk
  clear hk
  go_enter Tryz.func45, Tryz.ntmps45
  have hq := fun w => cls_eq s t w
  go_wp2
  go_region_with (first | (go_at_call 31; refine (classOf_any _ _ _ HK.out).mono ?_; rintro e w1 ⟨rfl, hb1⟩; obtain ⟨hc, hf⟩ := belCell hb1; simp only [clsV]))
  all_goals
    go_wp2
    go_ret
    exact ⟨rB (by simp), (box1d w _ _).trans (hb1.mono (by simp))⟩
end Go.Proofs.YtahidclhplmkiaaGreatDoor
