/- Package maps: Get at maps of the examples. -/
import Derived.Test.YtlfjhglhjepbpaaGreatDoorMIl
import Derived.Test.YtlfjhglhjepbpaaGreatDoorM2
namespace Go.Proofs.YtlfjhglhjepbpaaGreatDoor
open Go.RowKit
set_option linter.unusedVariables false
set_option linter.unusedSimpArgs false

theorem whr_find (f : PRow → Bool) : ∀ (l : List PRow) (i : Nat), (whr f l (i : Int) = -1 ∧ l.find? f = none) ∨ ∃ k p, whr f l (i : Int) = ((i + k : Nat) : Int) ∧ k < l.length ∧ l[k]? = some p ∧ l.find? f = some p
  | [], i => .inl ⟨rfl, rfl⟩
  | x :: l, i => by
    cases hx : f x with
    | true => exact .inr ⟨0, x, by simp [whr, hx], by simp, rfl, by simp [List.find?, hx]⟩
    | false =>
      have e : whr f (x :: l) (i : Int) = whr f l ((i + 1 : Nat) : Int) := by simp [whr, hx]
      rcases whr_find f l (i + 1) with ⟨h1, h2⟩ | ⟨k, p, h1, h2, h3, h4⟩
      · exact .inl ⟨by rw [e, h1], by simp [List.find?, hx, h2]⟩
      · exact .inr ⟨k + 1, p, by rw [e, h1]; congr 1; omega, by simpa using h2, by simpa using h3, by simp [List.find?, hx, h4]⟩
/-- A map of the examples. -/
structure MapE (w : World) (r : IRow) (l : List PRow) : Prop where
  rd : RdP w l r.ps
  ok : ROk r
  k : r.k = 2
  ke : ∀ p, p ∈ l → KE p
  dist : Dist l
  len : l.length ≤ 1000
theorem MapE.below {w w' : World} {r : IRow} {l : List PRow} (h : MapE w r l) (hb : Below w.heap.size w w') : MapE w' r l := ⟨RdRows.below h.rd hb, h.ok, h.k, h.ke, h.dist, h.len⟩
theorem MapE.is {w : World} {r : IRow} {l : List PRow} (h : MapE w r l) : Calls Tryz.prog 31 #[itV r] w fun e w' => e = .returned (.bool true) ∧ Below w.heap.size w w' :=
  isMap_any r l w h.rd h.ok h.k h.ke h.dist (by have := h.len; omega)
theorem itV_mk (k ak tr nd : Int) (tx : ByteArray) (ps ms fn : Value) : Value.agg #[.int .i64 k, .int .i64 ak, .string tx, .int .i64 tr, .int .i64 nd, ps, ms, fn] = itV ⟨k, ak, tx, tr, nd, ps, ms, fn⟩ := rfl
def getV (o : Option PRow) : Value := .tuple #[(o.map PRow.v).getD (.slice none 0 0), .bool o.isSome]
def GetP (o : Option PRow) (w : World) (e : Ending) (w' : World) : Prop := e = .returned (getV o) ∧ Below w.heap.size w w'
set_option maxRecDepth 100000 in
theorem get_any (r : IRow) (l : List PRow) (k : Int) (t : ByteArray) (w : World) (h : MapE w r l) (hk : KeyS k t) :
    Calls Tryz.prog 18 #[itV r, .agg #[.int .i64 k, .string t]] w (GetP (l.find? (keyAt t)) w) := by
  have H := Lib.hid h
  have HK := Lib.hid hk
  obtain ⟨A, c, hA, hm⟩ := h.rd.form
  have HE := Lib.hid (fun p hp => h.ke p hp)
  have hlen := h.len
  have hr := h.ok
  have hk2 := h.k
  clear h hk
  obtain ⟨k', ak, tx, tr, nd, ps, ms, fn⟩ := r
  dsimp only at hA hk2
  subst hA
  subst hk2
  have sms := fun w a m => run_store Tryz.prog w a ms m hr.ms
  have sfn := fun w a m => run_store Tryz.prog w a fn m hr.fn
  have oms := hr.ms
  have ofn := hr.fn
  dsimp only at oms ofn
  clear hr hm
  generalize hl : l.length = m at *
  have HM := Lib.hid hl
  clear hl
  have HT := Lib.hid (itV_mk 2 ak tr nd tx (.slice A m c) ms fn)
  simp only [itV]
  go_enter Tryz.func18, Tryz.ntmps18
  have hbx := Lib.hid (((box1 w 31 #[.int .i64 2, .int .i64 ak, .string tx, .int .i64 tr, .int .i64 nd, .slice A m c, ms, fn]).alloc (by simp) (.cells #[.int .i64 k, .string t] 26)))
  go_wp2_with fail
  refine (MapE.is (r := ⟨2, ak, tx, tr, nd, .slice A m c, ms, fn⟩) (H.out.below hbx.out)).mono ?_
  rintro e w1 ⟨rfl, hb1⟩
  have HC := Lib.hid (show ∀ W, Below (w.heap.size + 2) ((w.alloc (.cells #[.int .i64 2, .int .i64 ak, .string tx, .int .i64 tr, .int .i64 nd, .slice A m c, ms, fn] 31)).alloc (.cells #[.int .i64 k, .string t] 26)) W →
      Below w.heap.size w W ∧ W.cell? ⟨w.heap.size, 5, none⟩ = some (.slice A m c) ∧ W.cell? ⟨w.heap.size + 1, 0, none⟩ = some (.int .i64 k) ∧ W.cell? ⟨w.heap.size + 1, 1, none⟩ = some (.string t) from fun W hW =>
    ⟨hbx.out.trans (hW.mono (by omega)), (hW.cell (p := ⟨w.heap.size, 5, none⟩) (by simp)).trans (by simp), (hW.cell (p := ⟨w.heap.size + 1, 0, none⟩) (by simp)).trans (by simp), (hW.cell (p := ⟨w.heap.size + 1, 1, none⟩) (by simp)).trans (by simp)⟩)
  have HB1 := Lib.hid (hb1.mono (show w.heap.size + 2 ≤ _ by simp))
  have hw1 := (show w.heap.size + 2 ≤ w1.heap.size by have := hb1.size; simpa using this)
  clear hb1
  obtain ⟨_, b5, k0, k1⟩ := HC.out _ HB1.out
  go_wp2_with fail
  refine (HK.out.valid _).mono ?_
  rintro e w2 ⟨rfl, hb2⟩
  have HB2 := Lib.hid (HB1.out.trans (hb2.mono hw1))
  have hw2 := (show w.heap.size + 2 ≤ w2.heap.size by have := hb2.size; omega)
  clear hb2 b5 k0 k1
  obtain ⟨_, b5, k0, k1⟩ := HC.out _ HB2.out
  go_wp2_with fail
  refine (entry_any l _ k t _ (RdRows.below H.out.rd (HC.out _ HB2.out).1) (fun p hp => (HE.out p hp).kp) (by rw [HM.out]; omega) HK.out.1).mono ?_
  rintro e w3 ⟨rfl, hb3⟩
  have HB3 := Lib.hid (HB2.out.trans (hb3.mono hw2))
  clear hb3 b5 k0 k1
  obtain ⟨_, b5, k0, k1⟩ := HC.out _ HB3.out
  rcases whr_find (keyAt t) l 0 with ⟨h1, h2⟩ | ⟨j, p, h1, h2, h3, h4⟩
  · have hz : whr (keyAt t) l 0 = -1 := h1
    have HF := Lib.hid h2
    simp only [hz]
    clear h1 h2 hz
    go_wp2
    refine bodyPost_ret (v := getV none) ?_ rfl ⟨by rw [HF.out], (HC.out _ HB3.out).1⟩
    simp [results, Tryz.results18, go_sem, getV]
  · have hz : whr (keyAt t) l 0 = (j : Int) := by simpa using h1
    have HF := Lib.hid h4
    simp only [hz]
    obtain ⟨bI, off, r, rfl, hbI, hget, hdrop, g0, g1, g2⟩ := RdP.row H.out.rd (HC.out _ HB3.out).1 (k := j) (by rw [← HM.out]; exact h2)
    obtain rfl : r = p := by rw [h3] at hget; exact (Option.some.inj hget).symm
    have hv := (HE.out r (List.mem_of_getElem? h3)).2
    have hjm : j < m := by rw [← HM.out]; exact h2
    clear h1 h2 h3 h4 hget hdrop hz
    go_wp2
    refine bodyPost_ret (v := getV (some r)) ?_ rfl ⟨by rw [HF.out], (HC.out _ HB3.out).1⟩
    simp [results, Tryz.results18, go_sem, getV]
end Go.Proofs.YtlfjhglhjepbpaaGreatDoor
