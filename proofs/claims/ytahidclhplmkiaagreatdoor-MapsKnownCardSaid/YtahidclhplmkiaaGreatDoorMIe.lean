/- chiselref18.Same, SameAll: items that read alike are the same. -/
import Derived.Test.YtahidclhplmkiaaGreatDoorM2
namespace Go.Proofs.YtahidclhplmkiaaGreatDoor
open Go.RowKit
set_option linter.unusedVariables false
set_option linter.unusedSimpArgs false

def SqD (w0 : World) (d : Nat) (v : Value) : Prop := ∃ n b f, SqR w0 d v n b f
inductive EqX (w0 : World) (d : Nat) : IRow → IRow → Prop
  | atom {x y : IRow} : x.k = 0 → y.k = 0 → x.ak = y.ak → x.tx = y.tx → EqX w0 d x y
  | node {x y : IRow} : x.k = 1 → y.k = 1 → x.tr = y.tr → x.nd = y.nd → EqX w0 d x y
  | func {x y : IRow} {p : Option Addr} : x.k = 4 → y.k = 4 → x.fn = .pointer p → y.fn = .pointer p → EqX w0 d x y
  | map {x y : IRow} {l : List PRow} : x.k = 2 → y.k = 2 → RdP w0 l x.ps → RdP w0 l y.ps → (∀ p, p ∈ l → SqD w0 d p.v) → EqX w0 d x y
  | arr {x y : IRow} {l : List Value} : x.k = y.k → (x.k < 0 ∨ 4 < x.k ∨ x.k = 3) → RdM w0 l x.ms → RdM w0 l y.ms → (∀ p, p ∈ l → SqD w0 d p) → EqX w0 d x y
/-- Two items that read alike. -/
def EqI (w0 : World) (d : Nat) (x y : IRow) : Prop := ROk x ∧ ROk y ∧ EqX w0 d x y
theorem ItP.eqI {w0 : World} {d : Nat} {r : IRow} {n b : Nat} {f : List IRow} (h : ItP w0 (SqR w0 d) r n b f) : EqI w0 d r r := by
  refine ⟨h.1, h.1, ?_⟩
  rcases h.2 with ⟨h0, h1, h2, h3⟩ | ⟨h0, h1, h2, h3⟩ | ⟨h0, h1, pl, n5, f5, h2, h3, h4⟩ | ⟨h0, pl, n5, h2, h3, h4⟩ | ⟨h0, h1, ⟨h2, h3, h4⟩ | ⟨bk, ok, hv, pl, n5, f5, h2, h3, h4, h5, h6, h7⟩⟩ | ⟨h0, h1, h2, h3, ms, h4, h5⟩
  · exact .atom h0 h0 rfl rfl
  · exact .node h0 h0 rfl rfl
  · refine .map h0 h0 h2 h2 fun p hp => ?_
    obtain ⟨n1, b1, f1, ⟨n2, b2, h5, _⟩, _⟩ := h3.mem p hp
    exact ⟨_, _, _, h5⟩
  · refine .arr rfl (.inr (.inr h0)) h2 h2 fun p hp => ?_
    obtain ⟨n1, b1, f1, ⟨n2, h5, _⟩, _⟩ := h3.mem p hp
    exact ⟨_, _, _, h5⟩
  · exact .func h0 h0 h2 h2
  · exact .func h0 h0 h2 h2
  · exact .arr rfl (h0.elim .inl fun h => .inr (.inl h)) h4 h4 h5
def itV (r : IRow) : Value := .agg #[.int .i64 r.k, .int .i64 r.ak, .string r.tx, .int .i64 r.tr, .int .i64 r.nd, r.ps, r.ms, r.fn]
def Yes (w : World) (e : Ending) (w' : World) : Prop := e = .returned (.bool true) ∧ Below w.heap.size w w'
def SameOK (w0 : World) (d : Nat) : Prop := ∀ (l : List IRow) (v v' : Value) (w : World), RdI w0 l v → RdI w0 l v' → (∀ r, r ∈ l → EqI w0 d r r) → Below w0.heap.size w0 w →
  Calls Tryz.prog 14 #[v, v'] w (Yes w)
/-- What is asked of the sequences inside. -/
def SubSame (w0 : World) (d : Nat) : Prop := ∀ (v : Value) (w : World), SqD w0 d v → Below w0.heap.size w0 w → Calls Tryz.prog 14 #[v, v] w (Yes w)
theorem SameOK.sub {w0 : World} {d : Nat} (h : SameOK w0 d) : SubSame w0 (d + 1) := by
  rintro v w ⟨n, b, f, l, h1, h2⟩ hb
  refine h l v v w h1 h1 (fun r hr => ?_) hb
  obtain ⟨n1, b1, f1, h3, _⟩ := h2.mem r hr
  exact h3.eqI
theorem Yes.after {w W : World} {e : Ending} {w' : World} (hb : Below w.heap.size w W) (h : Yes W e w') : Yes w e w' := ⟨h.1, hb.trans (h.2.mono hb.size)⟩

theorem xbox2 (w : World) (x y : IRow) : ∃ W, W = ((w.alloc (.cells #[.int .i64 x.k, .int .i64 x.ak, .string x.tx, .int .i64 x.tr, .int .i64 x.nd, x.ps, x.ms, x.fn] 30)).alloc (.cells #[.int .i64 y.k, .int .i64 y.ak, .string y.tx, .int .i64 y.tr, .int .i64 y.nd, y.ps, y.ms, y.fn] 30)) ∧ Below w.heap.size w W ∧ ICells W w.heap.size 0 x ∧ ICells W (w.heap.size + 1) 0 y ∧ w.heap.size + 1 < W.heap.size := by
  refine ⟨_, rfl, ((Below.refl _ _).alloc (Nat.le_refl _) _).alloc (by simp) _, ?_, ?_, by simp⟩
  · refine ⟨?_, ?_, ?_, ?_, ?_, ?_, ?_, ?_⟩ <;> simp
  · refine ⟨?_, ?_, ?_, ?_, ?_, ?_, ?_, ?_⟩ <;> simp

theorem infoFn : ∃ j, Tryz.prog.info? 127 = some j := by
  have h : (Tryz.prog.info? 127).isSome = true := by kernel_rfl
  exact Option.isSome_iff_exists.1 h
set_option maxRecDepth 100000 in
set_option maxHeartbeats 8000000 in
theorem same_rows (w0 : World) (d : Nat) (ih : SubSame w0 d) (x y : IRow) (w : World) (h : EqI w0 d x y) (hb : Below w0.heap.size w0 w) :
    Calls Tryz.prog 15 #[itV x, itV y] w (Yes w) := by
  have IH := Lib.hid ih
  have HB := Lib.hid hb
  clear ih hb
  obtain ⟨hx, hy, h⟩ := h
  obtain ⟨xk, xak, xtx, xtr, xnd, xps, xms, xfn⟩ := x
  obtain ⟨yk, yak, ytx, ytr, ynd, yps, yms, yfn⟩ := y
  have x1 := hx.ps
  have x2 := hx.ms
  have x3 := hx.fn
  have y1 := hy.ps
  have y2 := hy.ms
  have y3 := hy.fn
  dsimp only at x1 x2 x3 y1 y2 y3
  have sx1 := fun w a m => run_store Tryz.prog w a xps m x1
  have sx2 := fun w a m => run_store Tryz.prog w a xms m x2
  have sx3 := fun w a m => run_store Tryz.prog w a xfn m x3
  have sy1 := fun w a m => run_store Tryz.prog w a yps m y1
  have sy2 := fun w a m => run_store Tryz.prog w a yms m y2
  have sy3 := fun w a m => run_store Tryz.prog w a yfn m y3
  clear hx hy
  simp only [itV]
  cases h with
  | atom h1 h2 h3 h4 =>
    dsimp only at h1 h2 h3 h4
    subst h1 h2 h3 h4
    go_enter Tryz.func15, Tryz.ntmps15
    go_wp2
    go_ret
    exact ⟨rB (by simp), ((Below.refl _ _).alloc (Nat.le_refl _) _).alloc (by simp) _⟩
  | node h1 h2 h3 h4 =>
    dsimp only at h1 h2 h3 h4
    subst h1 h2 h3 h4
    go_enter Tryz.func15, Tryz.ntmps15
    go_wp2
    go_ret
    exact ⟨rB (by simp), ((Below.refl _ _).alloc (Nat.le_refl _) _).alloc (by simp) _⟩
  | @func p h1 h2 h3 h4 =>
    dsimp only at h1 h2 h3 h4
    subst h1 h2 h3 h4
    have heq : ∀ (a : Addr) (w : World), (binOp .eql 28 (.pointer (some a)) (.pointer (some a))).run Tryz.prog w = .ok (.bool true) w := fun a w => by
      obtain ⟨j, hj⟩ := infoFn
      exact run_eql_ptr_same w a Tryz.underlying28 hj
    rcases p with _ | ⟨pb, po, ps⟩
    all_goals
      go_enter Tryz.func15, Tryz.ntmps15
      go_wp2
      go_ret
      exact ⟨rB (by simp), ((Below.refl _ _).alloc (Nat.le_refl _) _).alloc (by simp) _⟩
  | @map l h1 h2 h3 h4 h5 =>
    dsimp only at h1 h2 h3 h4
    subst h1 h2
    obtain ⟨A, c, rfl, hm⟩ := h3.form
    obtain ⟨A', c', rfl, _⟩ := h4.form
    have H3 := Lib.hid h3
    have H4 := Lib.hid h4
    have H5 := Lib.hid h5
    clear h3 h4 h5
    unfold maxLen at hm
    generalize hn : l.length = m at *
    have HM := Lib.hid hn
    clear hn
    obtain ⟨W, hW, B1, X1, Y1, hz⟩ := xbox2 w ⟨2, xak, xtx, xtr, xnd, .slice A m c, xms, xfn⟩ ⟨2, yak, ytx, ytr, ynd, .slice A' m c', yms, yfn⟩
    have B1 := Lib.hid B1
    have X1 := Lib.hid X1
    have Y1 := Lib.hid Y1
    have HW := Lib.hid hW
    clear hW
    go_enter Tryz.func15, Tryz.ntmps15
    go_wp2
    go_loopw [5] (fun i wr => ∃ k : Nat, k ≤ m ∧ i = .int .i64 k ∧ Hid (Below W.heap.size W wr)) (fun i _ => m - (intOf i).toNat)
    case atStart => exact ⟨0, Nat.zero_le _, rfl, Lib.hid (by rw [HW.out]; exact Below.refl _ _)⟩
    case round =>
      obtain ⟨k, hk, rfl, hbr⟩ := hrel
      have hx5 : wr.cell? ⟨w.heap.size, 5, none⟩ = some (.slice A m c) := (hbr.out.cell (p := ⟨w.heap.size, 5, none⟩) (by simp; omega)).trans X1.out.2.2.2.2.2.1
      have hy5 : wr.cell? ⟨w.heap.size + 1, 5, none⟩ = some (.slice A' m c') := (hbr.out.cell (p := ⟨w.heap.size + 1, 5, none⟩) (by simp; omega)).trans Y1.out.2.2.2.2.2.1
      have HBR := Lib.hid (B1.out.trans (hbr.out.mono (by omega)))
      by_cases hlt : k < m
      · obtain ⟨b1, o1, r1, rfl, hb1, hg1, _, c0, c1, c2⟩ := H3.out.row (HB.out.trans (HBR.out.mono HB.out.size)) hlt
        obtain ⟨b2, o2, r2, rfl, hb2, hg2, _, e0, e1, e2⟩ := H4.out.row (HB.out.trans (HBR.out.mono HB.out.size)) hlt
        obtain rfl : r1 = r2 := by rw [hg1] at hg2; exact Option.some.inj hg2
        have HS := Lib.hid (H5.out r1 (List.mem_of_getElem? hg1))
        clear hg1 hg2 hb1 hb2
        have hbq := hbr
        clear hbr
        go_wp2
        refine still_tail_d 26 (by kernel_rfl) (by kernel_rfl) ?_
        simp only [List.take_succ_cons, List.take_zero, List.drop_succ_cons, List.drop_zero]
        repeat still_step
        refine wpStill_nil ?_
        go_wp2_with fail
        refine (IH.out _ _ HS.out ((HB.out.trans (HBR.out.mono HB.out.size)).drew)).mono ?_
        rintro e w' ⟨rfl, hb'⟩
        have HB' := Lib.hid ((hbq.out.drew).trans (hb'.mono (by have := hbq.out.size; simpa using this)))
        clear hb'
        go_wp2
        go_roundw
        case rel => exact ⟨k + 1, by omega, by go_num, HB'⟩
        case measure => simp [intOf]; omega
      · obtain rfl : k = m := by omega
        go_wp2
        go_ret
        exact ⟨rfl, HBR.out⟩
  | @arr l h1 h2 h3 h4 h5 =>
    dsimp only at h1 h2 h3 h4
    subst h1
    obtain ⟨A, c, rfl, hm⟩ := h3.form
    obtain ⟨A', c', rfl, _⟩ := h4.form
    have H3 := Lib.hid h3
    have H4 := Lib.hid h4
    have H5 := Lib.hid h5
    clear h3 h4 h5
    unfold maxLen at hm
    generalize hn : l.length = m at *
    have HM := Lib.hid hn
    clear hn
    have k0 : (xk == 0) = false := by simp; omega
    have k1 : (xk == 1) = false := by simp; omega
    have k2 : (xk == 2) = false := by simp; omega
    have k4 : (xk == 4) = false := by simp; omega
    clear h2
    obtain ⟨W, hW, B1, X1, Y1, hz⟩ := xbox2 w ⟨xk, xak, xtx, xtr, xnd, xps, .slice A m c, xfn⟩ ⟨xk, yak, ytx, ytr, ynd, yps, .slice A' m c', yfn⟩
    have B1 := Lib.hid B1
    have X1 := Lib.hid X1
    have Y1 := Lib.hid Y1
    have HW := Lib.hid hW
    clear hW
    go_enter Tryz.func15, Tryz.ntmps15
    go_wp2
    go_loopw [6] (fun i wr => ∃ k : Nat, k ≤ m ∧ i = .int .i64 k ∧ Hid (Below W.heap.size W wr)) (fun i _ => m - (intOf i).toNat)
    case atStart => exact ⟨0, Nat.zero_le _, rfl, Lib.hid (by rw [HW.out]; exact Below.refl _ _)⟩
    case round =>
      obtain ⟨k, hk, rfl, hbr⟩ := hrel
      have hx5 : wr.cell? ⟨w.heap.size, 6, none⟩ = some (.slice A m c) := (hbr.out.cell (p := ⟨w.heap.size, 6, none⟩) (by simp; omega)).trans X1.out.2.2.2.2.2.2.1
      have hy5 : wr.cell? ⟨w.heap.size + 1, 6, none⟩ = some (.slice A' m c') := (hbr.out.cell (p := ⟨w.heap.size + 1, 6, none⟩) (by simp; omega)).trans Y1.out.2.2.2.2.2.2.1
      have HBR := Lib.hid (B1.out.trans (hbr.out.mono (by omega)))
      by_cases hlt : k < m
      · obtain ⟨b1, o1, r1, rfl, hb1, hg1, _, c0⟩ := H3.out.row (HB.out.trans (HBR.out.mono HB.out.size)) hlt
        obtain ⟨b2, o2, r2, rfl, hb2, hg2, _, e0⟩ := H4.out.row (HB.out.trans (HBR.out.mono HB.out.size)) hlt
        obtain rfl : r1 = r2 := by rw [hg1] at hg2; exact Option.some.inj hg2
        have HS := Lib.hid (H5.out r1 (List.mem_of_getElem? hg1))
        clear hg1 hg2 hb1 hb2
        have hbq := hbr
        clear hbr
        go_wp2
        refine still_tail_d 10 (by kernel_rfl) (by kernel_rfl) ?_
        simp only [List.take_succ_cons, List.take_zero, List.drop_succ_cons, List.drop_zero]
        repeat still_step
        refine wpStill_nil ?_
        go_wp2_with fail
        refine (IH.out _ _ HS.out ((HB.out.trans (HBR.out.mono HB.out.size)).drew)).mono ?_
        rintro e w' ⟨rfl, hb'⟩
        have HB' := Lib.hid ((hbq.out.drew).trans (hb'.mono (by have := hbq.out.size; simpa using this)))
        clear hb'
        go_wp2
        go_roundw
        case rel => exact ⟨k + 1, by omega, by go_num, HB'⟩
        case measure => simp [intOf]; omega
      · obtain rfl : k = m := by omega
        go_wp2
        go_ret
        exact ⟨rfl, HBR.out⟩

set_option maxRecDepth 100000 in
set_option maxHeartbeats 4000000 in
theorem same_all (w0 : World) (d : Nat) (ih : SubSame w0 d) : SameOK w0 d := by
  intro l v v' w h1 h2 hr hb
  obtain ⟨A, c, rfl, hm⟩ := h1.form
  obtain ⟨A', c', rfl, _⟩ := h2.form
  have H1 := Lib.hid h1
  have H2 := Lib.hid h2
  have HR := Lib.hid hr
  have HB := Lib.hid hb
  have IH := Lib.hid ih
  clear h1 h2 hr hb ih
  unfold maxLen at hm
  generalize hn : l.length = m at *
  have HM := Lib.hid hn
  clear hn
  go_enter Tryz.func14, Tryz.ntmps14
  go_wp2
  go_loopw [5] (fun i wr => ∃ k : Nat, k ≤ m ∧ i = .int .i64 k ∧ Hid (Below w.heap.size w wr)) (fun i _ => m - (intOf i).toNat)
  case atStart => exact ⟨0, Nat.zero_le _, rfl, Lib.hid (Below.refl _ _)⟩
  case round =>
    obtain ⟨k, hk, rfl, hbr⟩ := hrel
    have HBR := Lib.hid (HB.out.trans (hbr.out.mono HB.out.size))
    by_cases hlt : k < m
    · obtain ⟨b1, o1, r1, rfl, hb1, hg1, _, c0, c1, c2, c3, c4, c5, c6, c7⟩ := H1.out.row HBR.out hlt
      obtain ⟨b2, o2, r2, rfl, hb2, hg2, _, e0, e1, e2, e3, e4, e5, e6, e7⟩ := H2.out.row HBR.out hlt
      obtain rfl : r1 = r2 := by rw [hg1] at hg2; exact Option.some.inj hg2
      have HS := Lib.hid (HR.out r1 (List.mem_of_getElem? hg1))
      clear hg1 hg2 hb1 hb2
      have hbq := hbr
      clear hbr
      go_wp2
      refine still_tail_d 8 (by kernel_rfl) (by kernel_rfl) ?_
      simp only [List.take_succ_cons, List.take_zero, List.drop_succ_cons, List.drop_zero]
      repeat still_step
      refine wpStill_nil ?_
      go_wp2_with fail
      refine (same_rows w0 d IH.out r1 r1 _ HS.out HBR.out.drew).mono ?_
      rintro e w' ⟨rfl, hb'⟩
      have HB' := Lib.hid ((hbq.out.drew).trans (hb'.mono (by have := hbq.out.size; simpa using this)))
      clear hb'
      go_wp2
      go_roundw
      case rel => exact ⟨k + 1, by omega, by go_num, HB'⟩
      case measure => simp [intOf]; omega
    · obtain rfl : k = m := by omega
      go_wp2
      go_ret
      exact ⟨rfl, hbr.out⟩
theorem sub_same (w0 : World) : ∀ d, SubSame w0 d
  | 0 => fun v w ⟨n, b, f, h⟩ => h.elim
  | d + 1 => (same_all w0 d (sub_same w0 d)).sub
/-- Two sequences that read alike are the same. -/
theorem sameAll_any {w : World} {d : Nat} {l : List IRow} {v v' : Value} (h1 : RdI w l v) (h2 : RdI w l v') (hr : ∀ r, r ∈ l → EqI w d r r) :
    Calls Tryz.prog 14 #[v, v'] w (Yes w) := same_all w d (sub_same w d) l v v' w h1 h2 hr (Below.refl _ _)
theorem sameSq_any {w : World} {d : Nat} {v : Value} (h : SqD w d v) : Calls Tryz.prog 14 #[v, v] w (Yes w) := sub_same w d v w h (Below.refl _ _)
/-- Two items that read alike are the same. -/
theorem same_any {w : World} {d : Nat} {x y : IRow} (h : EqI w d x y) : Calls Tryz.prog 15 #[itV x, itV y] w (Yes w) := same_rows w d (sub_same w d) x y w h (Below.refl _ _)
end Go.Proofs.YtahidclhplmkiaaGreatDoor
