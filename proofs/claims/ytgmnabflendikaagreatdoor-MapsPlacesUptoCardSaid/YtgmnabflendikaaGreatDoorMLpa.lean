/- The law MapsPlaces: what is put in is found, and taken out again. -/
import Derived.Test.YtgmnabflendikaaGreatDoorMLab
namespace Go.Proofs.YtgmnabflendikaaGreatDoor
open Go.RowKit
set_option linter.unusedVariables false
set_option linter.unusedSimpArgs false

theorem cut_ins (l : List Value) (p : Nat) (x : Value) (h : p ≤ l.length) : cutL (insL l p x) p = l := by
  unfold cutL insL
  have h1 : (l.take p).length = p := by simp; omega
  rw [List.take_append_of_le_length (by omega), List.take_of_length_le (by omega), List.drop_append, h1, List.drop_eq_nil_of_le (by omega), show p + 1 - p = 1 by omega]
  simp
theorem ins_getD_at (l : List Value) (p : Nat) (x : Value) (h : p ≤ l.length) (z : Value) : (insL l p x).getD p z = x := by
  rw [List.getD_eq_getElem?_getD, insL_get x h]
  simp
theorem ins_getD_lo (l : List Value) (p k : Nat) (x z : Value) (h : p ≤ l.length) (hk : k < p) : (insL l p x).getD k z = l.getD k z := by
  rw [List.getD_eq_getElem?_getD, insL_get x h, if_pos hk, List.getD_eq_getElem?_getD]
theorem ins_getD_hi (l : List Value) (p k : Nat) (x z : Value) (h : p ≤ l.length) (hk : p ≤ k) : (insL l p x).getD (k + 1) z = l.getD k z := by
  rw [List.getD_eq_getElem?_getD, insL_get x h, if_neg (by omega), if_neg (by omega), show k + 1 - 1 = k by omega, List.getD_eq_getElem?_getD]
/-- At, at a place that there is. -/
theorem atHere_any (v : Value) (ms : List Value) (p : Nat) (W : World) (h : RdM W ms v) (hp : p < ms.length) (hn : ms.length ≤ 1000000) (x : Value) (hx : ms.getD p (.slice none 0 0) = x) (i : Int) (hi : i = (p : Int) + 1) :
    Calls Tryz.prog 7 #[itV (aR v), .int .i64 i] W fun e w' => e = .returned (.tuple #[x, .int .i64 0]) ∧ Below W.heap.size W w' := by
  subst hi
  have hc : chkE 3 ((p : Int) + 1) 0 ms.length = 0 := chkE_ok (by omega) (by omega)
  have := at_any (aR v) ((p : Int) + 1) ms W (.aR h) (fun _ => h) ⟨by omega, by omega⟩
  unfold AtPost atV at this
  rw [show (aR v).k = 3 from rfl, hc, if_pos rfl, show ((p : Int) + 1).toNat - 1 = p by omega, hx] at this
  exact this
/-- What stands behind the insertion. -/
structure PlT (w W : World) (ms : List Value) (p : Nat) (x mv bv : Value) (BA BB : Nat) : Prop where
  b : Below w.heap.size w W
  m : RdM W ms mv
  a : IBx W BA (aR mv)
  i : RdM W (insL ms p x) bv
  o : IBx W BB (aR bv)
theorem PlT.go {w W W' : World} {ms : List Value} {p : Nat} {x mv bv : Value} {BA BB : Nat} (h : PlT w W ms p x mv bv BA BB) (hb : Below W.heap.size W W') : PlT w W' ms p x mv bv BA BB :=
  ⟨h.b.trans (hb.mono h.b.size), RdRows.below h.m hb, h.a.go hb, RdRows.below h.i hb, h.o.go hb⟩
/-- Insert at a place that there is. -/
theorem insPl {w W : World} {d : Nat} {ms : List Value} {A : Option Addr} {m c p : Nat} {nm bm : Nat} {fm : List IRow} {Av : Option Addr} {mvv cv nv bv : Nat} {fv : List IRow} (hm : RdM w ms (.slice A m c)) (hs : MemS w d ms nm bm fm) (hv : SqR w d (.slice Av mvv cv) nv bv fv) (hl : ms.length = m) (hp : p ≤ m) (hn : 1 + nm + nv ≤ 1000) (hb : bm + bv ≤ 100000) (hW : Below w.heap.size w W) :
    Calls Tryz.prog 9 #[itV (aR (.slice A m c)), .int .i64 ((p : Int) + 1), .slice Av mvv cv] W fun e w' => ∃ Ab cb, e = .returned (.tuple #[itV (aR (.slice Ab (m + 1) cb)), .int .i64 0]) ∧ RdM w' (insL ms p (.slice Av mvv cv)) (.slice Ab (m + 1) cb) ∧ Below W.heap.size W w' := by
  subst hl
  obtain ⟨f', hi⟩ := mem_ins hs p hv
  have hlen := mem_len hs
  obtain ⟨A', m', c', e, hmv⟩ := sq_form hv
  cases e
  have ho : ovB (1 + (nm + (1 + nv))) (bm + bv) = false := by simp only [ovB, Bool.or_eq_false_iff, decide_eq_false_iff_not]; omega
  refine (insertAt_any (aR (.slice A ms.length c)) ms p Av mvv cv W (RdRows.below hm hW) (.aR hm) rfl (mem_one hs) hp (by omega) (by omega) (MemS.below hW hi) ho).mono ?_
  rintro e w' ⟨x, cx, rfl, ⟨rfl, h2⟩, hb'⟩
  rw [if_pos rfl] at h2
  obtain ⟨u, rfl, hr⟩ := h2
  obtain ⟨Ab, cb, rfl, _⟩ := RdM.form hr
  rw [insL_len _ hp] at *
  exact ⟨Ab, cb, rfl, hr, hb'⟩
/-- Delete takes it back. -/
theorem delPl {w W : World} {d : Nat} {ms : List Value} {m p : Nat} {nm bm : Nat} {fm : List IRow} {x : Value} {Ab : Option Addr} {cb : Nat} (hs : MemS w d ms nm bm fm) (hx : x.oneCell' = true) (hl : ms.length = m) (hp : p ≤ m) (hn : nm ≤ 1000) (hr : RdM W (insL ms p x) (.slice Ab (m + 1) cb)) :
    Calls Tryz.prog 11 #[itV (aR (.slice Ab (m + 1) cb)), .int .i64 ((p : Int) + 1)] W fun e w' => ∃ Ac cc, e = .returned (.tuple #[itV (aR (.slice Ac m cc)), .int .i64 0]) ∧ RdM w' ms (.slice Ac m cc) ∧ Below W.heap.size W w' := by
  subst hl
  have hlen := mem_len hs
  have hL := insL_len x hp
  refine (deleteAt_any (aR (.slice Ab (ms.length + 1) cb)) (insL ms p x) p W hr (.aR hr) rfl (fun q hq => ?_) (by omega) (by omega)).mono ?_
  · unfold insL at hq
    rcases List.mem_append.1 hq with hq | hq
    · exact mem_one hs q (List.mem_of_mem_take hq)
    · rcases List.mem_cons.1 hq with rfl | hq
      · exact hx
      · exact mem_one hs q (List.mem_of_mem_drop hq)
  rintro e w' ⟨y, cx, rfl, ⟨rfl, h2⟩, hb'⟩
  rw [if_pos rfl, cut_ins ms p x hp] at h2
  obtain ⟨u, rfl, hr'⟩ := h2
  obtain ⟨Ac, cc, rfl, _⟩ := RdM.form hr'
  exact ⟨Ac, cc, rfl, hr', hb'⟩
end Go.Proofs.YtgmnabflendikaaGreatDoor
